/- Texts of this seat laid together for one claim: Bm14, L3, Z38f, Z38. No condition of its own: what each proves stands with its theorems. -/
import Derived.Deep.CutBlock
import Derived.Deep.DeepCutAuto
import Derived.Test.YtnmhaipjfpongacGreatDoorPR47
import Derived.Test.YtnmhaipjfpongacGreatDoorPR46
import Derived.Test.YtnmhaipjfpongacGreatDoorPR8
import Derived.Test.YtnmhaipjfpongacGreatDoorPR42
import Derived.Test.YtnmhaipjfpongacGreatDoorPR44
import Derived.Test.YtnmhaipjfpongacGreatDoorPR38
import Derived.Test.YtnmhaipjfpongacGreatDoorPR49
import Derived.JoinedOf
import Derived.Test.YtnmhaipjfpongacGreatDoorChecked
import Derived.Test.YtnmhaipjfpongacGreatDoorRows
import Derived.ChangeMaps5
import Derived.LaidMore
import Derived.Lay
import Derived.Lib.LaidTab
import Derived.OpenShut
import Derived.SevenTiedAt
import Derived.SliceStrings
import Derived.Stop.Joined
import Derived.Stop.LaidErr
import Derived.Test.YtnmhaipjfpongacGreatDoorCards
import Derived.Test.YtnmhaipjfpongacGreatDoorTie
import Derived.Test.YtnmhaipjfpongacGreatDoorPR0
import Derived.Test.YtnmhaipjfpongacGreatDoorPR7
namespace Go.Proofs.YtnmhaipjfpongacGreatDoor
open Go.ChangeShapes Go.WideShapes Go.ChangeAt Go.RowKit

theorem MAt.older {w00 w0 w : World} {E : BE} {K : MK} {g : Nat → Nat} {ou : Nat → B} {hi : Nat → Bool} {wh : Nat → Nat} (h : MAt w0 w E K g ou hi wh) (hx : Ext w00 w0) (hr : RdR w00 (.slice K.la E.l.length K.lc) E.l) : MAt w00 w E K g ou hi wh := by
 obtain ⟨h1, h2, h3, h4, h5, h6⟩ := h.lo
 have hs := hx.size
 exact ⟨hx.then h.ext, h.cells, h.tree.low hs, hr, h.tab, h.ne, ⟨by omega, by omega, by omega, by omega, by omega, by omega⟩⟩
theorem stateM_Z {E : BE} {s : BS} (hI : BInv E s) (i : Nat) : stateM (mst E s i) = stateZ E s (i : Int) := by
 by_cases hi : i ∈ E.sm
 ·rw [mst_in hi, stateZ_in hi]
  have := (hI.rng i hi).1
  unfold stateM
  rw [if_neg (by omega)]
 ·rw [mst_out hi, stateZ_out fun k hk e => hi (by
   have : k = i := by omega
   rw [← this]; exact hk)]
  rfl
theorem resZ_M {E : BE} {s : BS} (i : Nat) : (resZ E s (i : Int)).1 = outM E s i := by
 unfold outM
 by_cases hi : i ∈ E.sm
 ·rw [mst_in hi]
  by_cases h2 : s.st i = 2
  ·rw [if_pos h2, resZ_in hi h2]
  ·rw [if_neg h2, resZ_not h2]
 ·rw [mst_out hi, resZ_out fun k hk e => hi (by
   have : k = i := by omega
   rw [← this]; exact hk)]
  rfl
theorem overP_true {E : BE} {s : BS} (h : ∀ i ∈ E.sm, s.st i ≠ 1) : overP E s = true := by
 unfold overP
 rw [List.filter_eq_nil_iff.2 fun i hi e => h i hi (beq_iff_eq.1 e)]
 rfl
set_option maxRecDepth 100000 in
set_option maxHeartbeats 2000000 in
theorem coded3_any (w : World) (v : Value) (c : Int) (h : Calls Tryz.prog 96 #[v] w (CodeIs w c (-1))) : Calls Tryz.prog 64 #[v, I c] w (RetE (.bool true) w) := by
 have HC := Lib.hid h
 clear h
 go_enter Tryz.func64, Tryz.ntmps64
 go_wp2_with fail
 refine HC.out.mono ?_
 rintro e w1 ⟨rfl, ho⟩
 go_wp2_with fail
 go_ret
 exact ⟨by simp, ho⟩
set_option maxRecDepth 100000 in
set_option maxHeartbeats 2000000 in
theorem pickRun_nil (w : World) (P : Nat → Addr) (v : Value) (hE : Errs w P [2]) : Calls Tryz.prog 63 #[.pointer none, v] w (fun e w' => e = .returned (.tuple #[.slice none 0 0, errV (P 2)]) ∧ Ext w w') := by
 have c2 := hE.var 2 _ (by decide) rfl
 clear hE
 go_enter Tryz.func63, Tryz.ntmps63
 go_wp2_with fail
 go_quiet (fail)
 go_wp2_with fail
 go_ret2
 exact ⟨rfl, Only.drewN _ _ _⟩
theorem wpIntsNil {P : Program} (hP : P = Tryz.prog) {ops : Array Oper} {rest : List Oper} {o : Oper} {a : Act} {Q : Exit → Act → World → Prop} (s x : Operand) (vk : Value) (ps : List Int) (W : World) (hgd : o.guard = none)
  (ho : o.op = .call { callee := .builtin .append, args := #[s, x], argTypes := #[46, 46] }) (hs : a.eval s = .slice none 0 0) (hx : a.eval x = vk) (hv : Rd I W vk ps) (hl : ps.length ≤ 1000000)
  (hK : ∀ v' w', Hid (Rd I w' v' ps) → Hid (Ext W w') → Hid (∀ i, v'.ownBlock = some i → W.heap.size ≤ i ∧ i < w'.heap.size) → wpList P ops Q rest (a.put o.dst v') w') : wpList P ops Q (o :: rest) a W := by
 subst hP
 obtain ⟨ao, cap, rfl, _, _, hc⟩ := hv
 have fin : ((ao = none ∧ ps = [] ∧ cap = 0) ∨ ∃ ad, ao = some ad ∧ ∀ j u, (ps.flatMap fun k => [I k])[j]? = some u → W.cell? (ad.add j) = some u) → wpList Tryz.prog ops Q (o :: rest) a W := fun hsrc =>
  wpList_appL (fun k : Int => [I k]) 46 3 1 8 _ infoInt Tryz.underlying46 rfl (by decide) (fun _ => rfl) (fun _ u hu => by cases List.mem_singleton.1 hu; rfl) (by decide) s x W.heap.size (.slice none 0 0) [] ps W hgd ho hs ao ps.length cap hx rfl hsrc (World.ownsRow_nil _ _ _ _) (by simpa using hl) (Nat.le_refl _) fun ao' m' cap' w' hm h2 h3 h4 => by
   have hf : ∀ q : List Int, q.flatMap (fun k => [I k]) = q.map I := fun q => by induction q with
    | nil => rfl
    | cons x q ih => rw [List.flatMap_cons, List.map_cons, ih]; rfl
   rw [List.nil_append] at hm h2
   rw [hf] at h2
   subst hm
   exact hK _ w' (Lib.hid (Rd.of_row h2)) (Lib.hid ((Only.of_grown h3).mono fun _ _ h => by cases h)) (Lib.hid (fun i e => h2.lt i e))
 by_cases hp : ps = []
 ·subst hp
  cases ao with
  | some ad => exact fin (.inr ⟨ad, rfl, by simp⟩)
  | none =>
   refine wpList_plain hgd fun K hK' => ?_
   have hrun : (Builtin.append_ #[46, 46] o.type #[.slice none 0 0, .slice none 0 cap]).run Tryz.prog W = .ok (.slice none 0 0) W := by kernel_rfl
   unfold Oper.wp execOp
   simp only [ho, resolve, invoke, builtin, Sem.run_bind, Sem.run_pure, Result.andThen_ok, List.map_toArray, List.map_cons, List.map_nil, hs, hx, List.length_nil, hrun]
   exact hK' _ _ (hK _ W (Lib.hid ⟨none, 0, rfl, Nat.le_refl _, Nat.zero_le _, fun h => absurd rfl h⟩) (Lib.hid (Only.refl _ _)) (Lib.hid (fun i e => by cases e)))
 ·obtain ⟨b, off, rfl, hcell⟩ := hc hp
  refine fin (.inr ⟨_, rfl, fun j u hu => ?_⟩)
  have hf : ∀ q : List Int, q.flatMap (fun k => [I k]) = q.map I := fun q => by induction q with
   | nil => rfl
   | cons x q ih => rw [List.flatMap_cons, List.map_cons, ih]; rfl
  rw [hf, List.getElem?_map] at hu
  obtain ⟨y, hy, rfl⟩ := Option.map_eq_some_iff.1 hu
  rw [addrAdd]
  exact hcell j y hy
theorem run_code (c : Nat) (t : Int) (w : World) : (Instr.field 37 (.agg #[IN c, I t]) 0).run Tryz.prog w = .ok (IN c) w := by kernel_rfl
theorem nFault_new (l : List Rule) (outs : List B) : nFault l outs = newFault l outs := rfl

set_option maxRecDepth 100000 in
set_option maxHeartbeats 16000000 in
theorem walkPickRuns (w : World) (P : Nat → Addr) (fs : FL) (v0 v1 v2 v3 : Value) (l : List Rule) (outs : List B) (ps : List Int) (hv0 : RdS 2 encF w v0 fs) (hv1 : RdR w v1 l) (hv2 : Rd S w v2 outs) (hv3 : Rd I w v3 ps) (h64 : ∀ p ∈ ps, In64 p) (hV : PV w P [1, 2, 3, 4, 5, 6, 7, 8, 9, 10, 11]) (hS : Sents w P) :
  Calls Tryz.prog 7 #[v0, v1, v2, v3] w (RetE (.bool true) w) := by
 have H0 := Lib.hid hv0
 have H1 := Lib.hid hv1
 have H2 := Lib.hid hv2
 have H3 := Lib.hid hv3
 have H64 := Lib.hid h64
 have HVV := Lib.hid hV
 have HSS := Lib.hid hS
 have HBU := Lib.hid (picked_any w P hV)
 obtain ⟨a0, q0, rfl, _, _, _⟩ := hv0
 obtain ⟨a1, q1, rfl, _, _, _⟩ := hv1
 obtain ⟨a2, q2, rfl, _, hm2, _⟩ := hv2
 obtain ⟨a3, q3, rfl, _, hm3, hc3⟩ := hv3
 have HC3 := Lib.hid hc3
 have hr3 : ps.length ≤ 9223372036854775807 := by unfold maxLen at hm3; omega
 have hr2 : outs.length ≤ 9223372036854775807 := by unfold maxLen at hm2; omega
 clear hV hS h64 hm2 hm3 hc3
 go_enter Tryz.func7, Tryz.ntmps7
 go_wp2_with fail
 refine (HBU.out).mono ?_
 rintro e w1 ⟨rfl, ho⟩
 have HX1 := Lib.hid ho
 clear ho
 go_wp2_with fail
 refine (longFiles3_any w1 _ fs (RdS.ext H0.out HX1.out)).mono ?_
 rintro e w2 ⟨r, rfl, hz, rfl⟩
 have HZ0 := Lib.hid hz
 clear hz
 cases r with
 | true =>
  go_wp2_with fail
  go_ret
  exact ⟨rfl, HX1.out⟩
 | false =>
  go_wp2_with fail
  refine (longRules_any w1 _ l 12 (H1.out.ext HX1.out)).mono ?_
  rintro e w2 ⟨⟨r, rfl, hr, hz⟩, rfl⟩
  have HZ2 := Lib.hid hz
  clear hz
  rcases hr with rfl | rfl
  case inr =>
   go_wp2_with fail
   go_ret
   exact ⟨rfl, HX1.out⟩
  case inl =>
   have HSH : Hid (∀ r ∈ l, ShortR r) := Lib.hid (HZ2.out rfl).2
   have HSM : Hid (∀ r ∈ l, RuleSm 900000 r) := Lib.hid (fun r hr => (HSH.out r hr).sm)
   have h41 : l.length ≤ 41 := by rcases (HZ2.out rfl).1 with h | h <;> omega
   have hlz : (l.length : Int) ≤ 41 := by omega
   have HIL : Hid (∀ r ∈ l, r.ins.length ≤ 1000000) := Lib.hid (fun r hr => by have := (HSH.out r hr).many; omega)
   have hf30 := (HZ0.out (by simp)).1
   have HFP := Lib.hid (HZ0.out (by simp)).2
   clear HZ2 HZ0
   go_wp2_with fail
   refine (longTexts_any w1 _ outs 10 300 (H2.out.ext HX1.out) (by decide)).mono ?_
   rintro e w2 ⟨⟨r, rfl, hr, hz⟩, rfl⟩
   have HZ3 := Lib.hid hz
   clear hz
   rcases hr with rfl | rfl
   case inr =>
    go_wp2_with fail
    go_ret
    exact ⟨rfl, HX1.out⟩
   case inl =>
    have ho10 : outs.length ≤ 10 := by have := (HZ3.out rfl).1; omega
    have hoz : (outs.length : Int) ≤ 10 := by omega
    clear HZ3
    by_cases hlp : (60 : Int) < (ps.length : Int)
    ·go_wp2_with fail
     go_ret
     exact ⟨rfl, HX1.out⟩
    have hpz : (ps.length : Int) ≤ 60 := by omega
    go_wp2_with fail
    refine (fileTree3_any w1 P _ fs (RdS.ext H0.out HX1.out) (by omega) HFP.out ((HVV.out.ext HX1.out).errs.sub (by decide)) (HVV.out.ext HX1.out).max).mono ?_
    rintro e w3 ⟨b1, mb1, m, slv, rfl, hT1⟩
    have HX3 := Lib.hid (HX1.out.then hT1.ext)
    have HFT : Hid (FTree (treeOfF fs)) := Lib.hid (by have := ftree_of HFP.out fs.length; rwa [List.take_length] at this)
    have HTR : Hid (TreeAt w3 b1 mb1 (treeOfF fs)) := Lib.hid hT1.tree
    have HMR := Lib.hid hT1.model
    clear hT1 hf30 HFP hlp
    generalize treeOfF fs = T at HFT HTR HMR
    go_wp2_with fail
    refine (pickRun_nil w3 P _ ((HVV.out.ext HX3.out).errs.sub (by decide))).mono ?_
    rintro e w4 ⟨rfl, ho4⟩
    have HX4 := Lib.hid (HX3.out.then ho4)
    have HO4 := Lib.hid ho4
    have hce : ErrAt w4 P (3, -1) (errV (P 2)) := .inr (.inl ⟨by decide, rfl, rfl⟩)
    have HCD := Lib.hid (coded3_any w4 (errV (P 2)) 3 (code_at w4 P (HSS.out.ext HX4.out) (errV (P 2)) (3, -1) hce (by decide) (fun h => by cases h) w4 (Only.refl _ _)))
    clear ho4 hce
    go_wp2_with fail
    refine HCD.out.mono ?_
    rintro e w5 ⟨rfl, ho5⟩
    have HX5 := Lib.hid (HX4.out.then ho5)
    have HO5 := Lib.hid (HO4.out.then ho5)
    clear ho5 HCD
    go_wp2_with fail
    refine (ownRules_any w5 _ l (H1.out.ext HX5.out) (by omega) HIL.out).mono ?_
    rintro e w6 ⟨v6, rfl, hr6, ho6⟩
    have HX6 := Lib.hid (HX5.out.then ho6)
    have HO6 := Lib.hid (HO5.out.then ho6)
    have HR6 := Lib.hid hr6
    obtain ⟨a6, p6, rfl, _, _, _⟩ := hr6
    clear ho6
    go_wp2_with fail
    refine (ownTextsRow_any w6 _ outs (H2.out.ext HX6.out) (by omega)).mono ?_
    rintro e w7 ⟨v7, rfl, ho7, hr7⟩
    have HX7 := Lib.hid (HX6.out.then ho7)
    have HO7 := Lib.hid (HO6.out.then ho7)
    have HNEW := Lib.hid (new_any w7 P b1 mb1 T (.slice a6 l.length p6) v7 none l outs (HTR.out.ext HO7.out) (HR6.out.ext ho7) hr7.rd (by omega) HSM.out ((HVV.out.ext HX7.out).sub (by decide)))
    obtain ⟨a7, p7, rfl, _, _, _⟩ := hr7.rd
    clear ho7 hr7
    go_wp2_with fail
    refine HNEW.out.mono ?_
    rintro e w8 ⟨vb, ev, rfl, he, ho8, hcase⟩
    have HX8 := Lib.hid (HX7.out.then ho8)
    have HO8 := Lib.hid (HO7.out.then ho8)
    have HBF := Lib.hid (buildFault_any w8 l outs _ _ (H1.out.ext HX8.out) (H2.out.ext HX8.out) HSM.out)
    rw [nFault_new] at HBF
    by_cases hf : (newFault l outs).1 = 0
    case neg =>
     rcases hcase with ⟨_, rfl⟩ | ⟨hf0, _⟩
     case inr => exact absurd hf0 hf
     obtain ⟨t8, q8, rfl⟩ := he.some hf
     generalize newFault l outs = F at HBF hf
     obtain ⟨c, t⟩ := F
     have hcz : (0 : Int) < (c : Int) := by simp at hf; omega
     have HBF : Hid (Calls Tryz.prog 54 #[.slice a1 l.length q1, .slice a2 outs.length q2] w8 (RetE (.agg #[IN c, I t]) w8)) := HBF
     have hfd := run_code c t
     clear he ho8 HNEW hf
     go_wp2_with fail
     refine HBF.out.mono ?_
     rintro e w9 ⟨rfl, ho9⟩
     have HX9 := Lib.hid (HX8.out.then ho9)
     clear ho9
     go_wp2_with fail
     go_ret
     exact ⟨rfl, HX9.out⟩
    case pos =>
     rcases hcase with ⟨hf0, _⟩ | ⟨_, K, rfl, hcp, hb⟩
     case inl => exact absurd hf hf0
     obtain rfl := he.zero hf
     obtain ⟨hrs, hmade, o, hpo⟩ := newFault_ok hf
     have HRS := Lib.hid hrs
     have HBN := Lib.hid (bad_none hmade)
     have hsml : (needL l outs).length ≤ 1000 := by
      have := List.length_filter_le (reachB l outs) (List.range l.length)
      rw [List.length_range] at this
      unfold needL
      omega
     have HWL : Hid (BWell (newE l outs T) o (fun i => (needL l outs).contains i)) := Lib.hid (new_well hrs hpo HFT.out.bytes)
     have HLN : Hid (BLens (newE l outs T)) := Lib.hid (BLens.of hrs HSH.out (fun i hi => (mem_needL.1 hi).1) hsml)
     have HTL : Hid ((newE l outs T).T.length ≤ 1000000) := Lib.hid (by have := HFT.out.fits.few; show T.length ≤ 1000000; omega)
     have hcz : ¬ (0 : Int) < (((newFault l outs).1 : Nat) : Int) := by rw [hf]; simp
     have HCP := Lib.hid hcp
     have HB := Lib.hid hb
     have HBR : Hid (∀ i, InBld (newE l outs T) K i → w7.heap.size ≤ i ∧ i < w8.heap.size) := Lib.hid (fun i hi => ⟨hb.ge i hi, hb.lt i hi⟩)
     have HZ7 : Hid (w.heap.size ≤ w7.heap.size) := Lib.hid HX7.out.size
     generalize newFault l outs = F at HBF hcz
     obtain ⟨c, t⟩ := F
     have hcz : ¬ (0 : Int) < (c : Int) := hcz
     have HBF : Hid (Calls Tryz.prog 54 #[.slice a1 l.length q1, .slice a2 outs.length q2] w8 (RetE (.agg #[IN c, I t]) w8)) := HBF
     clear he ho8 HNEW hf hrs hmade hpo hsml hcp hb
     go_wp2_with fail
     refine HBF.out.mono ?_
     rintro e w9 ⟨rfl, ho9⟩
     have HX9 := Lib.hid (HX8.out.then ho9)
     have HO9 := Lib.hid (HO8.out.then ho9)
     have HB9 := Lib.hid (HB.out.ext ho9)
     have HZ9 : Hid (w8.heap.size ≤ w9.heap.size) := Lib.hid ho9.size
     have hfd := run_code c t
     clear ho9 HB HBF
     have HNM := Lib.hid (newBuild_any w9 w1.heap.size m slv (.slice a1 l.length q1) (.slice a2 outs.length q2) none l outs T (HMR.out.ext HO9.out) HTL.out (H1.out.ext HX9.out) (H2.out.ext HX9.out) HRS.out HBN.out)
     go_wp2_with fail
     refine HNM.out.mono ?_
     rintro e w10 ⟨Km, rfl, hcm, hlv, hmb, hge⟩
     have ho10 := hmb.ext
     have HX10 := Lib.hid (HX9.out.then ho10)
     have HB10 := Lib.hid (HB9.out.ext ho10)
     have HM10 : Hid (MBldAt w w10 (newE l outs T) Km .new) := Lib.hid (hmb.older HX9.out (by rw [← show Value.slice a1 l.length q1 = .slice Km.la (newE l outs T).l.length Km.lc from hlv]; exact H1.out))
     have HGM : Hid (∀ i, InMA Km i → w9.heap.size ≤ i ∧ i < w10.heap.size) := Lib.hid (fun i hi => ⟨hge i hi, hmb.lt i hi⟩)
     have HCM := Lib.hid hcm
     generalize (fun i => (needL l outs).contains i) = is at HWL
     obtain ⟨E, hEq⟩ : ∃ E, newE l outs T = E := ⟨_, rfl⟩
     rw [hEq] at HWL HLN HB10 HM10 HBR
     have HTL : Hid (E.T.length ≤ 1000000) := by rw [← hEq]; exact HTL
     have HEL : Hid (E.l = l) := by rw [← hEq]; exact Lib.hid rfl
     clear hEq
     clear hcm hlv hmb hge ho10 HNM HB9 HMR HTR
     have h60 : ps.length ≤ 1000000 := by omega
     have HP60 := Lib.hid h60
     have H3W := Lib.hid (H3.out.ext HX10.out)
     clear h60 hfd
     go_wp2_with (at_builtin; refine wpIntsNil rfl (.tmp 99) (.tmp 100) _ ps w10 rfl rfl rfl rfl H3W.out HP60.out ?_; intro vp w11 HRP HXP HBP)
     have HX11 := Lib.hid (HX10.out.then HXP.out)
     have HB11 := Lib.hid (HB10.out.ext HXP.out)
     have HM11 := Lib.hid (HM10.out.grow HXP.out)
     have HZ11 : Hid (w10.heap.size ≤ w11.heap.size) := Lib.hid HXP.out.size
     have hkA := PkA.keeps (w0 := w) (P := P) (base := w7.heap.size) (E := E) (K := K) (R := fun wq => MBldAt w wq E Km .new ∧ Rd I wq vp ps) (own := fun i => InBld E K i ∨ InMA Km i ∨ vp.ownBlock = some i) HCP.out HWL.out HLN.out (HVV.out.sub (by decide))
      (fun i hi => ⟨by have := HBR.out i hi; have := HZ7.out; omega, .inl hi⟩) (fun wa wb q h ho hq => ⟨h.1.later ho (fun i e => by
       rcases hq i e with h2 | ⟨_, h2⟩
       ·have := HBR.out i h2; have := HZ7.out; omega
       ·exact h2) (fun i hi e => by
       rcases hq i e with h2 | ⟨h2, _⟩
       ·have := HBR.out i h2; have := HGM.out i hi; have := HZ9.out; omega
       ·exact h2 (.inr (.inl hi))), h.2.later ho (fun i hi e => by
       rcases hq i e with h2 | ⟨h2, _⟩
       ·have := HBR.out i h2; have := HBP.out i hi; have := HZ9.out; have := HM10.out.lt Km.b (.inl rfl); have := HGM.out Km.b (.inl rfl); omega
       ·exact h2 (.inr (.inr hi)))⟩)
     have hpA := pickRun_any _ _ _ _ _ P _ E K o is w11 .new ps vp hkA ⟨HB11.out, BInv.new _, HX11.out, ⟨HM11.out, HRP.out⟩, fun _ => rfl⟩ HWL.out HLN.out (fun wq x h => h.rest.2) H64.out (by omega) (fun i hi => by
      rcases hi with hi | hi | hi
      ·exact HB11.out.lt i hi
      ·exact HM11.out.lt i hi
      ·exact (HBP.out i hi).2)
     have HPA := Lib.hid hpA
     clear hkA hpA
     go_wp2_with fail
     refine HPA.out.mono ?_
     rintro e w12 ⟨vx, o1, o2, x1, y, rfl, hrx, hA, hk1, hk2⟩
     obtain ⟨X, hX⟩ : ∃ X, X = o1 ++ o2 := ⟨_, rfl⟩
     rw [← hX] at hrx
     have HXX := Lib.hid hX
     clear hX
     have hb12 := hA.bld
     have hm12 := hA.rest.1
     have HX12 := Lib.hid hA.ext
     have HI12 := Lib.hid hA.inv
     have hov := HWL.out.over hA.inv (fun i hi => by
      have hrl := (AllOut.ran (bs := fun s : BS => s) (step := fun x i => stepNn E x (i : Int)) (fun x i hi hr => (run_of hi hr).2) hk2).2
      cases hr : readyP E y i with
      | false => rfl
      | true =>
       have : i ∈ readyL E y := List.mem_filter.2 ⟨hi, hr⟩
       rw [hrl] at this; cases this)
     have hl1 : PicksTo E (·.1) (stepM E) ps (.new, none) o1 (x1, none) := PicksTo.like (fun s : BS => ((s, none) : BS × CS)) (fun _ => rfl) (fun x i hi => (stepM_none x hi).symm) hk1
     have hl2 : AllOut E (·.1) (stepM E) (x1, none) o2 (y, none) := AllOut.like (fun s : BS => ((s, none) : BS × CS)) (fun _ => rfl) (fun x i hi => (stepM_none x hi).symm) hk2
     have hbx : ∀ i, vx.ownBlock = some i → w11.heap.size ≤ i ∧ i < w12.heap.size := fun i hi => hrx.lt i hi
     have HBX := Lib.hid hbx
     have hms : MSt w E Km Km.b (fun wq => BldAt wq P w7.heap.size E K y ∧ RowI w11.heap.size wq vx X) .nilIface (.new, none) w12 := ⟨hm12, BInv.new _, HCM.out, fun i e => (by cases e), ⟨hb12, hrx⟩⟩
     have HPO := Lib.hid (pickOf_any (lo := w12.heap.size) (.slice a3 ps.length q3) ps hms (fun wa wb q h ho hq => ⟨h.1.later ho (fun i hi e => by
       have h1 := HBR.out i hi
       have h3 := HZ9.out
       rcases hq i e with h2 | h2 | h2
       ·have := HGM.out i (.inr (.inr (.inr h2))); omega
       ·have := HGM.out i (.inl h2); omega
       ·have := hb12.lt i hi; omega), ho.row h.2 (fun i e hi => by
       have h1 := HBX.out i e
       have h3 := HZ11.out
       rcases hq i hi with h2 | h2 | h2
       ·have := HGM.out i (.inr (.inr (.inr h2))); omega
       ·have := HGM.out i (.inl h2); omega
       ·omega)⟩) HWL.out HLN.out HTL.out (by have := HGM.out Km.b (.inl rfl); have := HX9.out.size; omega) (hm12.lt Km.b (.inl rfl)) (Nat.le_refl _) H3.out H64.out (by omega))
     have HL1 := Lib.hid hl1
     have HL2 := Lib.hid hl2
     have HOV := Lib.hid hov
     obtain ⟨ax, cx, rfl, _, _, _⟩ := hrx.rd
     clear hrx hA hk1 hk2 hb12 hm12 hov hl1 hl2 hbx hms HPA
     go_wp2_with fail
     refine HPO.out.mono ?_
     rintro e w13 ⟨vy, o3, o4, x3, z, cv3, rfl, hry, hs3, hk3, hk4⟩
     obtain ⟨rfl, rfl⟩ := HL1.out.det hk3
     obtain ⟨rfl, rfl⟩ := HL2.out.det hk4
     have HX13 := Lib.hid hs3.bld.ext
     have HBE := Lib.hid hs3.rest.1
     have HME := Lib.hid hs3.bld
     rw [← HXX.out] at hry
     have hsi := sameInts_any w13 _ _ _ _ hs3.rest.2.rd.ints hry.rd.ints
     rw [beq_self_eq_true] at hsi
     have HSI := Lib.hid hsi
     clear hry hs3 hk3 hk4 hsi HPO HL1 HL2
     go_wp2_with fail
     refine HSI.out.mono ?_
     rintro e w14 ⟨rfl, hd⟩
     have HX14 := Lib.hid hd.ext
     have hoa := over_any (HBE.out.ext HX14.out) HWL.out.rise HLN.out.few
     rw [overP_true HOV.out] at hoa
     have HOA := Lib.hid hoa
     clear hd hoa HSI
     go_wp2_with fail
     refine HOA.out.mono ?_
     rintro e w15 ⟨rfl, ho15⟩
     have HX15 := Lib.hid (HX14.out.then ho15)
     clear ho15 HOA
     have HKP := Lib.hid (fun (wq : World) (hx : Ext w13 wq) (t : Nat) (ht : t < l.length) => (show wq.cell? ⟨Km.b, 2, none⟩ = some (TabS Km.st l.length) ∧ wq.cell? ⟨Km.b, 3, none⟩ = some (TabS Km.ou l.length) ∧ wq.cell? ⟨Km.st, t, none⟩ = some (S (stateZ E y (t : Int))) ∧ wq.cell? ⟨Km.ou, t, none⟩ = some (S (resZ E y (t : Int)).1) from by
      have hm := HME.out.grow hx
      rw [← stateM_Z HI12.out t, resZ_M t, ← HEL.out]
      rw [← HEL.out] at ht
      exact ⟨hm.cell 2, hm.cell 3, hm.tab.st.cell ht, hm.tab.ou.cell ht⟩))
     go_wp2_with fail
     go_loopw [19, 20, 21] (fun i _ _ wr => ∃ t : Nat, t ≤ l.length ∧ i = .int .i64 t ∧ Hid (Ext w13 wr)) (fun i _ _ _ => l.length - (intOf i).toNat)
     case atStart => exact ⟨0, Nat.zero_le _, rfl, HX15⟩
     case round =>
      obtain ⟨t, ht, rfl, HX⟩ := hrel
      by_cases htl : t < l.length
      ·have htz : (t : Int) < (l.length : Int) := by omega
       have ht0 : (0 : Int) ≤ (t : Int) := by omega
       have ht1 : ¬ (t : Int) < 0 := by omega
       have ht2 : ¬ (l.length : Int) ≤ (t : Int) := by omega
       have HRS := Lib.hid (result_any (HBE.out.ext HX.out) (t : Int))
       have HSA := Lib.hid (fun (wq : World) (hx : Ext w13 wq) => state_any (HBE.out.ext hx) HI12.out (t : Int))
       have HKT := Lib.hid (fun (wq : World) (hx : Ext w13 wq) => HKP.out wq hx t htl)
       have HTL2 := Lib.hid htl
       generalize stateZ E y (t : Int) = sx at HSA HKT
       generalize resZ E y (t : Int) = rx at HRS HKT
       obtain ⟨ox, ob⟩ := rx
       have HRS : Hid (Calls Tryz.prog 68 #[PTR K.b, I t] wr (RetSt (.tuple #[S ox, .bool ob]) wr)) := HRS
       have HKT : Hid (∀ wq : World, Ext w13 wq → wq.cell? ⟨Km.b, 2, none⟩ = some (TabS Km.st l.length) ∧ wq.cell? ⟨Km.b, 3, none⟩ = some (TabS Km.ou l.length) ∧ wq.cell? ⟨Km.st, t, none⟩ = some (S sx) ∧ wq.cell? ⟨Km.ou, t, none⟩ = some (S ox)) := HKT
       clear htl ht
       go_wp2_with fail
       refine HRS.out.mono ?_
       rintro e w20 ⟨rfl, rfl⟩
       go_wp2_with fail
       go_region_held3 (fun w' => w'.cell? ⟨Km.b, 2, none⟩ = some (TabS Km.st l.length) ∧ w'.cell? ⟨Km.b, 3, none⟩ = some (TabS Km.ou l.length) ∧ w'.cell? ⟨Km.st, t, none⟩ = some (S sx) ∧ w'.cell? ⟨Km.ou, t, none⟩ = some (S ox)) (first | exact HKT.out _ HX25.out | exact HKT.out _ HX.out.thenDrew | go_keep)
        ((go_at_call 69; refine (HSA.out _ (by first | exact HX.out.thenDrew | exact HX.out)).mono ?_; rintro e w25 ⟨rfl, ho⟩; have HX25 : Hid (Ext w13 w25) := Lib.hid (Only.ext (by first | exact HX.out.thenDrew | exact HX.out) ho); clear ho))
       all_goals
        go_wp2_with fail
        go_roundw
        case rel => exact ⟨t + 1, HTL2.out, by go_num, HX25⟩
        case measure => have := HTL2.out; simp [intOf]; omega
      ·have htz : ¬ (t : Int) < (l.length : Int) := by omega
       go_wp2_with fail
       go_ret
       exact ⟨rfl, HX13.out.then HX.out⟩
end Go.Proofs.YtnmhaipjfpongacGreatDoor

namespace Go.Proofs.YtnmhaipjfpongacGreatDoor
theorem prog_laidOut : laidOutB Tryz.pinned.checked.prog = true := by kernel_rfl
theorem prog_mapsRowed : mapsRowed Tryz.pinned.checked.prog = true := by kernel_rfl
theorem prog_stops : (Tryz.pinned.checked.prog.stops == []) = true := by kernel_rfl
theorem prog_stopKnobs : (Tryz.pinned.checked.prog.stopKnobs == []) = true := by kernel_rfl
theorem prog_stopsHeard : Tryz.pinned.checked.prog.stopsHeard = true := by kernel_rfl
theorem prog_mayEnter : Tryz.pinned.checked.prog.mayEnter = true := by kernel_rfl
end Go.Proofs.YtnmhaipjfpongacGreatDoor

namespace Go.Proofs.YtnmhaipjfpongacGreatDoor.pickRunsFacts
theorem k0 : Rows.pickRunsRow.wf (OpenSpec.ofChange Rows.pickRunsSpec) = true := by kernel_rfl
theorem k3 : Tryz.f7.params.all (Tryz.pinned.checked.prog.readableRec ·) = true := by kernel_rfl
theorem k4 : namedTie Tryz.pinned.checked.prog Rows.pickRunsRow.named Rows.pickRunsSpec.vars = true := by kernel_rfl
theorem k5 : (Rows.pickRunsRow.stops == []) = true := by kernel_rfl
theorem k7 : (Rows.pickRunsRow.knobs == []) = true := by kernel_rfl
theorem k9 : (Rows.pickRunsRow.inPlace == Tryz.pinned.checked.prog.inPlace 7) = true := by kernel_rfl
theorem k10 : (Rows.pickRunsRow.unfollowed == Tryz.pinned.checked.prog.unfollowed 7) = true := by kernel_rfl
theorem k11 : (Rows.pickRunsRow.recurses == Tryz.pinned.checked.prog.recurses 7) = true := by kernel_rfl
theorem k12 : (Rows.pickRunsRow.named == Tryz.pinned.checked.prog.varsNamed 7) = true := by kernel_rfl
theorem k13 : (Rows.pickRunsRow.maps == (Tryz.f7.params.toList ++ Rows.pickRunsSpec.plain.varTypes Tryz.pinned.checked.prog).any (Tryz.pinned.checked.prog.mapsRec ·)) = true := by kernel_rfl
theorem k14 : (Rows.pickRunsRow.ifaces == (Tryz.f7.params.toList ++ Rows.pickRunsSpec.plain.varTypes Tryz.pinned.checked.prog).any (Tryz.pinned.checked.prog.ifacesRec ·)) = true := by kernel_rfl
theorem k15 : (Rows.pickRunsRow.mapsOut == Tryz.pinned.checked.prog.mapsAmong Tryz.f7.resultTypes.toList) = true := by kernel_rfl
theorem k16 : (Rows.pickRunsRow.loops == (Tryz.f7.params.toList ++ Rows.pickRunsSpec.plain.varTypes Tryz.pinned.checked.prog).any (Tryz.pinned.checked.prog.loopsFrom ·)) = true := by kernel_rfl
theorem k17 : (Rows.pickRunsRow.wideKeys == (Tryz.f7.params.toList ++ Rows.pickRunsSpec.plain.varTypes Tryz.pinned.checked.prog ++ Tryz.f7.resultTypes.toList).any (Tryz.pinned.checked.prog.wideKeysFrom ·)) = true := by kernel_rfl
theorem k18 : Rows.pickRunsSpec.vars.all (Tryz.pinned.checked.prog.varReadable ·) = true := by kernel_rfl
theorem k19 : Tryz.f7.resultTypes.all (fun t => Tryz.pinned.checked.prog.readableRec t && decide (t < Tryz.pinned.checked.prog.types.size)) = true := by kernel_rfl
theorem k20 : (Rows.pickRunsRow.ifacesOut == Tryz.f7.resultTypes.toList.any (Tryz.pinned.checked.prog.ifacesRec ·)) = true := by kernel_rfl
theorem k21 : (Rows.pickRunsRow.loopsOut == Tryz.f7.resultTypes.toList.any (Tryz.pinned.checked.prog.loopsFrom ·)) = true := by kernel_rfl
theorem k22 : (Rows.pickRunsRow.plainKeys == Tryz.pinned.checked.prog.plainKeys) = true := by kernel_rfl
theorem k23 : Rows.pickRunsRow.shortTexts.isNone = true := by kernel_rfl
theorem k26 : (Rows.pickRunsRow.lifted == Tryz.pinned.checked.prog.liftsFinal) = true := by kernel_rfl
theorem k27 : (Tryz.pinned.checked.prog.make == some Rows.pickRunsRow.make) = true := by kernel_rfl
theorem k28 : (Rows.pickRunsRow.kinds == (if Rows.pickRunsRow.domain.isEmpty then [] else Tryz.f7.params.toList.map fun t => match Tryz.pinned.checked.prog.underlying t with | some (.int k) => some k | _ => none)) = true := by kernel_rfl
theorem k29 : (Rows.pickRunsRow.pinned == Rows.pickRunsRow.pinnedBy) = true := by kernel_rfl
theorem k30 : (Rows.pickRunsRow.veiled == (Tryz.f7.params.toList ++ Rows.pickRunsSpec.plain.varTypes Tryz.pinned.checked.prog ++ Tryz.f7.resultTypes.toList).any (Tryz.pinned.checked.prog.veiledRec ·)) = true := by kernel_rfl
theorem k31 : Rows.pickRunsRow.veiledFits Tryz.pinned.checked.prog Tryz.f7.params.toList (Tryz.f7.params.toList ++ Rows.pickRunsSpec.plain.varTypes Tryz.pinned.checked.prog ++ Tryz.f7.resultTypes.toList) = true := by kernel_rfl
set_option maxRecDepth 100000 in
theorem facts : joinedFacts Tryz.pinned.checked.prog 7 Tryz.f7 Rows.pickRunsSpec Rows.pickRunsRow = true := by
 unfold joinedFacts
 simp only [Bool.and_eq_true]
 repeat' apply And.intro
 ·exact k0
 ·exact prog_laidOut
 ·exact prog_mapsRowed
 ·exact k3
 ·exact k4
 ·exact k5
 ·exact prog_stops
 ·exact k7
 ·exact prog_stopKnobs
 ·exact k9
 ·exact k10
 ·exact k11
 ·exact k12
 ·exact k13
 ·exact k14
 ·exact k15
 ·exact k16
 ·exact k17
 ·exact k18
 ·exact k19
 ·exact k20
 ·exact k21
 ·exact k22
 ·exact k23
 ·exact prog_stopsHeard
 ·exact prog_mayEnter
 ·exact k26
 ·exact k27
 ·exact k28
 ·exact k29
 ·exact k30
 ·exact k31
end Go.Proofs.YtnmhaipjfpongacGreatDoor.pickRunsFacts

namespace Go.Proofs.YtnmhaipjfpongacGreatDoor.pickRunsDone
open Go.ChangeShapes Go.WideShapes Go.ChangeAt Go.RowKit

theorem own : ownKnob Tryz.prog.godebug = none := by kernel_rfl
theorem laidOut : laidOutB Tryz.prog = true := by kernel_rfl

theorem max_of {W : World} (h : W.ShapedOpen Tryz.prog) : HasMax W :=
 cell_of_shapedOpen_int (zero := #[.int .i64 0]) (t := 3) h (of_decide_eq_true (by kernel_rfl)) (by kernel_rfl) rfl (by kernel_rfl) (by kernel_rfl) Tryz.underlying3

theorem sents {W : World} (h : laidMetH Tryz.prog Rows.pickRunsRow.laid W) : ∃ p, Sents W p := by
 have h' : laidMet Tryz.prog (Rows.pickRunsRow.laid.filter fun x => x.2.handleName?.isNone) W ∧ handlesMet Tryz.prog (Rows.pickRunsRow.laid.filter fun x => x.2.handleName?.isSome) W := h
 exact sents_of h'.1 h'.2 (by decide +kernel) (by decide +kernel) (List.mem_cons_self ..)

theorem pow_of {W : World} (h : laidMetH Tryz.prog Rows.pickRunsRow.laid W) : Pow W := by
 have h' : laidMet Tryz.prog (Rows.pickRunsRow.laid.filter fun x => x.2.handleName?.isNone) W ∧ handlesMet Tryz.prog (Rows.pickRunsRow.laid.filter fun x => x.2.handleName?.isSome) W := h
 have h2 := (h'.1).tail.tail
 exact Lib.tabIs_of_head (g := 13) (by kernel_rfl) (by kernel_rfl) Tryz.underlying359 Tryz.underlying309 (by kernel_rfl) (by kernel_rfl) h2

theorem atoi_of {W : World} (h : laidMetH Tryz.prog Rows.pickRunsRow.laid W) : AtoiVars W := by
 have h' : laidMet Tryz.prog (Rows.pickRunsRow.laid.filter fun x => x.2.handleName?.isNone) W ∧ handlesMet Tryz.prog (Rows.pickRunsRow.laid.filter fun x => x.2.handleName?.isSome) W := h
 obtain ⟨a1, e1⟩ := one_of_laid h'.1 (n := "strconv.ErrSyntax") (g := 17) (by kernel_rfl) (by kernel_rfl) (by decide +kernel)
 obtain ⟨a2, e2⟩ := one_of_laid h'.1 (n := "strconv.ErrRange") (g := 18) (by kernel_rfl) (by kernel_rfl) (by decide +kernel)
 exact ⟨⟨_, _, e1⟩, _, _, e2⟩

theorem start_met (os : Os) (args : Array Value) : laidMetH Tryz.prog Rows.pickRunsRow.laid (((World.doorLaid Tryz.prog 400 os).layVars Tryz.prog (Rows.pickRunsRow.laid.filter fun x => x.2.handleName?.isNone)).forCall (fun _ _ => 0) ⟨#[], args, []⟩).memory :=
 laidMetH_of_parts3 (fuel := 8) (laidMet_over args (by kernel_rfl) (by kernel_rfl)) (by kernel_rfl) (by kernel_rfl)

set_option maxRecDepth 100000 in
theorem lifted (os : Os) (started : os.Started) (H : Type) (enc : TypeId × Value → H) :
  ReturnsInHanded {} Tryz.checked os 7 .any (fun w args => (Rows.pickRunsSpec.pre enc Tryz.prog Tryz.f7 [] false w args ∧ laidMetH Tryz.prog Rows.pickRunsRow.laid w) ∧ sizedMet enc Tryz.prog Tryz.f7 (OpenSpec.ofChange Rows.pickRunsSpec) false w args)
   (Rows.pickRunsSpec.post enc Tryz.prog Tryz.f7 false true false false) := by
 refine handed_both (C := Tryz.checked) (X := fun w _ => laidMetH Tryz.prog Rows.pickRunsRow.laid w) (fun _ _ _ hh h => h.of_heap hh) own started (by kernel_rfl) Tryz.func7
  (ChangeSpec.witness_shaped (enc := enc) (C := Tryz.checked) (os := os) (X := fun w _ => laidMetH Tryz.prog Rows.pickRunsRow.laid w) false ((World.doorLaid Tryz.prog 400 os).layVars Tryz.prog (Rows.pickRunsRow.laid.filter fun x => x.2.handleName?.isNone)) #[.slice none 0 0, .slice none 0 0, .slice none 0 0, .slice none 0 0] 8 (World.layVars_os _ _ _) (World.shaped_of_ZipB (by kernel_rfl) (by kernel_rfl)) (by kernel_rfl) (by kernel_rfl) (by kernel_rfl) (start_met os _)) ?_
 intro W base args ds gs before hval0 hW _ hsz0 hL hsh _
 have hval : ∀ (j : Nat) t v, Tryz.f7.params[j]? = some t → args[j]? = some v → Value.okWide Tryz.prog W .any base t v := hval0
 have hsz : (DataW.weightsEach Tryz.prog (Tryz.f7.params.toList ++ Rows.pickRunsSpec.plain.varTypes Tryz.prog) (ds ++ gs)).all (· ≤ reachBytes) = true := hsz0
 clear hsz0
 have hW' := hW
 obtain ⟨p, q, hA0, hV, rfl, hfz, hnd⟩ := hW
 have hA : DataW.TrodAll enc Tryz.prog W 0 (fun _ => true) true Tryz.f7.params.toList args.toList ds p := hA0
 rw [Tryz.params7] at hA hval hsz
 obtain ⟨v0, vs0, d0, ds0, p0, q0, hargs, rfl, rfl, h0, r0⟩ := trodAll_cons hA
 obtain ⟨v1, vs1, d1, ds1, p1, q1, rfl, rfl, rfl, h1, r1⟩ := trodAll_cons r0
 obtain ⟨v2, vs2, d2, ds2, p2, q2, rfl, rfl, rfl, h2, r2⟩ := trodAll_cons r1
 obtain ⟨v3, vs3, d3, ds3, p3, q3, rfl, rfl, rfl, h3, r3⟩ := trodAll_cons r2
 obtain ⟨rfl, rfl, rfl⟩ := trodAll_nil r3
 obtain rfl : args = #[v0, v1, v2, v3] := by cases args; simp_all
 obtain ⟨rfl, rfl⟩ := trodVars_none hV
 have k0 := h0
 have lt0 : ∀ x ∈ p0, x.block < W.heap.size := by obtain ⟨m, hm⟩ := k0; exact DataW.trod_lt m _ _ _ hm
 have rc0 := reach_arg hsz (j := 0) (t := 22) (d := d0) rfl rfl
 obtain ⟨a0, len0, cap0, rfl⟩ := okWide_slice Tryz.underlying22 (hval 0 22 v0 rfl rfl)
 obtain ⟨fuel0, hf0⟩ := h0
 obtain ⟨l0, hlen0, rd0, rb0⟩ := open_files (x := (d0, p0)) (by simpa [Value.cells] using hf0) rc0
 have k1 := h1
 have lt1 : ∀ x ∈ p1, x.block < W.heap.size := by obtain ⟨m, hm⟩ := k1; exact DataW.trod_lt m _ _ _ hm
 have rc1 := reach_arg hsz (j := 1) (t := 23) (d := d1) rfl rfl
 obtain ⟨a1, len1, cap1, rfl⟩ := okWide_slice Tryz.underlying23 (hval 1 23 v1 rfl rfl)
 obtain ⟨fuel1, hf1⟩ := h1
 obtain ⟨l1, hlen1, rd1, rb1⟩ := open_rules (x := (d1, p1)) (by simpa [Value.cells] using hf1) rc1
 have k2 := h2
 have lt2 : ∀ x ∈ p2, x.block < W.heap.size := by obtain ⟨m, hm⟩ := k2; exact DataW.trod_lt m _ _ _ hm
 have rc2 := reach_arg hsz (j := 2) (t := 53) (d := d2) rfl rfl
 obtain ⟨l2, rd2⟩ := open_texts h2 (hval 2 53 v2 rfl rfl)
 have k3 := h3
 have lt3 : ∀ x ∈ p3, x.block < W.heap.size := by obtain ⟨m, hm⟩ := k3; exact DataW.trod_lt m _ _ _ hm
 have rc3 := reach_arg hsz (j := 3) (t := 46) (d := d3) rfl rfl
 obtain ⟨a3, len3, cap3, rfl⟩ := okWide_slice Tryz.underlying46 (hval 3 46 v3 rfl rfl)
 obtain ⟨fuel3, hf3⟩ := h3
 obtain ⟨l3, hlen3, rd3, rb3⟩ := open_nums64 (x := (d3, p3)) (by simpa [Value.cells] using hf3) rc3
 clear hA0 hval0
 simp only [List.append_nil] at hW'
 obtain ⟨pt, hs⟩ := sents hL
 have hmax := max_of hsh
 have hav := atoi_of hL
 have hpow := pow_of hL
 have walk : Calls Tryz.prog 7 #[.slice a0 len0 cap0, .slice a1 len1 cap1, v2, .slice a3 len3 cap3] W fun e w' => e = .returned (.bool true) ∧ Ext W w' :=
  walkPickRuns W pt l0 _ _ _ _ l1 l2 l3 rd0 rd1 rd2 rd3 rb3 ⟨hs.errs _, hmax, hav, hpow⟩ hs
 refine walk.mono fun e W' ⟨he, hext⟩ => ?_
 subst he
 have bel := hext.extBelow
 exact ⟨_, rfl, _, _, _, [], _, [], hW', trodAll_mk1 (shut_bool Tryz.underlying4 _), (trodAll_cons_mk (Below.trod laidOut (by kernel_rfl) (of_decide_eq_true (by kernel_rfl)) k0 bel lt0) (trodAll_cons_mk (Below.trod laidOut (by kernel_rfl) (of_decide_eq_true (by kernel_rfl)) k1 bel lt1) (trodAll_cons_mk (Below.trod laidOut (by kernel_rfl) (of_decide_eq_true (by kernel_rfl)) k2 bel lt2) (trodAll_cons_mk (Below.trod laidOut (by kernel_rfl) (of_decide_eq_true (by kernel_rfl)) k3 bel lt3) trodAll_mk0)))), rfl, bel.frame _, fun h => by cases h⟩

theorem fnNamed : Tryz.pinned.checked.prog.funcNamed Rows.pickRunsRow.func = some 7 := by kernel_rfl
theorem facts : joinedFacts Tryz.pinned.checked.prog 7 Tryz.f7 Rows.pickRunsSpec Rows.pickRunsRow = true := pickRunsFacts.facts
theorem inst : Tryz.f7.isInstance Tryz.pinned.checked.prog Rows.pickRunsRow.origin Rows.pickRunsRow.targs := of_decide_eq_true (by kernel_rfl)
theorem wrap : Tryz.f7.isWrapper Tryz.pinned.checked.prog Rows.pickRunsRow.wrapper Rows.pickRunsRow.mainSum := by
 unfold Func.isWrapper
 first | (rw [if_pos (by decide +kernel)]; kernel_rfl) | (rw [if_neg (by decide +kernel)]; exact ⟨rfl, rfl⟩)
theorem said : Rows.PickRunsSaid :=
 OpenClaim.holds_of_wide 7 Tryz.f7 rfl rfl rfl rfl rfl rfl rfl ⟨rfl, rfl, rfl, rfl, rfl⟩ rfl rfl rfl rfl rfl fnNamed Tryz.func7 facts
  inst wrap (fun os started H enc _ => lifted os started H enc)
end Go.Proofs.YtnmhaipjfpongacGreatDoor.pickRunsDone
