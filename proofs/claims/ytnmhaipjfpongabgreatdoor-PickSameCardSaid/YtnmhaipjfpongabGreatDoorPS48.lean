/- Texts of this seat laid together for one claim: Z32. No condition of its own: what each proves stands with its theorems. -/
import Derived.Deep.CutBlock
import Derived.Deep.DeepCutAuto
import Derived.Test.YtnmhaipjfpongabGreatDoorPS46
import Derived.Test.YtnmhaipjfpongabGreatDoorPS33
import Derived.Test.YtnmhaipjfpongabGreatDoorPS40
import Derived.Test.YtnmhaipjfpongabGreatDoorPS47
namespace Go.Proofs.YtnmhaipjfpongabGreatDoor
open Go.ChangeShapes Go.WideShapes Go.ChangeAt Go.RowKit

theorem ran_same {E : BE} {o : List Nat} {is : Nat → Bool} {x y : BS} {p q : List Nat} (hW : BWell E o is) (hx : BInv E x) (hy : BInv E y) (h1 : Ran E (fun s => s) .new x p) (h2 : Ran E (fun s => s) .new y q) (e1 : readyL E x = []) (e2 : readyL E y = []) :
  (∀ i ∈ E.sm, x.st i ≠ 1) ∧ (∀ i ∈ E.sm, y.st i ≠ 1) ∧ (∀ i ∈ E.sm, x.st i = y.st i) ∧ p.length = q.length ∧ (∀ i ∈ p, i ∈ E.sm) ∧ (∀ i ∈ q, i ∈ E.sm) ∧ ∀ k, p.count k + q.count k = 0 ∨ p.count k + q.count k = 2 := by
 have over : ∀ s : BS, BInv E s → readyL E s = [] → ∀ i ∈ E.sm, s.st i ≠ 1 := fun s I e => hW.over I fun i hi => by
  cases hr : readyP E s i with
  | false => rfl
  | true =>
   have : i ∈ readyL E s := List.mem_filter.2 ⟨hi, hr⟩
   rw [e] at this; cases this
 have o1 := over x hx e1
 have o2 := over y hy e2
 have hs : ∀ i ∈ E.sm, x.st i = y.st i := fun i hi => by rw [hW.final hx o1 i hi, hW.final hy o2 i hi]
 have n0 : ∀ k, ranP BS.new k = false := fun k => rfl
 have mem : ∀ k, k ∈ p ↔ k ∈ q := by
  have half : ∀ (a b : BS) (c d : List Nat), Ran E (fun s => s) .new a c → Ran E (fun s => s) .new b d → (∀ i ∈ E.sm, a.st i = b.st i) → ∀ k ∈ c, k ∈ d := fun a b c d ha hb hab k hk => by
   have hm := (ha.new k hk).1
   have h3 := ha.all k
   have h4 := hb.all k
   simp only [n0, Bool.or_false, hk, decide_true] at h3 h4
   have h5 : ranP b k = ranP a k := by unfold ranP; rw [hab k hm]
   rw [h5, h3] at h4
   exact of_decide_eq_true h4.symm
  exact fun k => ⟨half x y p q h1 h2 hs k, half y x q p h2 h1 (fun i hi => (hs i hi).symm) k⟩
 have hp : p.Perm q := (List.perm_ext_iff_of_nodup h1.once h2.once).2 mem
 refine ⟨o1, o2, hs, hp.length_eq, fun i hi => (h1.new i hi).1, fun i hi => (h2.new i hi).1, fun k => ?_⟩
 rw [hp.count_eq, h2.once.count]
 split
 ·exact .inr rfl
 ·exact .inl rfl
theorem picks_ran {E : BE} {ps : List Int} {x1 y : BS} {o1 o2 : List Nat} (h1 : PicksTo E (fun x => x) (fun x i => stepNn E x (i : Int)) ps .new o1 x1) (h2 : AllOut E (fun x => x) (fun x i => stepNn E x (i : Int)) x1 o2 y) : Ran E (fun s => s) .new y (o1 ++ o2) ∧ readyL E y = [] := by
 have hs : ∀ (x : BS) (i : Nat), i ∈ E.sm → readyP E x i = true → ∀ k, ranP (stepNn E x (i : Int)) k = (decide (k = i) || ranP x k) := fun x i hi hr => (run_of hi hr).2
 have g1 := PicksTo.ran (bs := fun s : BS => s) (step := fun x i => stepNn E x (i : Int)) hs h1
 have g2 := AllOut.ran (bs := fun s : BS => s) (step := fun x i => stepNn E x (i : Int)) hs h2
 exact ⟨g1.app g2.1, g2.2⟩
theorem cnt_same {E : BE} {x y : BS} (hs : ∀ i ∈ E.sm, x.st i = y.st i) (h1 : ∀ k, x.hit k = false) (h2 : ∀ k, y.hit k = false) : cntV x E.sm = cntV y E.sm := by
 have hc : ∀ f : BS → Nat → Bool, (∀ k ∈ E.sm, f x k = f y k) → E.sm.countP (f x) = E.sm.countP (f y) := fun f h => List.countP_congr fun k hk => by rw [h k hk]
 unfold cntV
 rw [hc cRan fun k hk => by unfold cRan; rw [hs k hk, h1, h2], hc cHit fun k hk => by unfold cHit; rw [hs k hk, h1, h2], hc cFail fun k hk => by unfold cFail; rw [hs k hk], hc cLeft fun k hk => by unfold cLeft; rw [hs k hk]]
set_option maxRecDepth 100000 in
theorem run_ints (n : Nat) (hn : n ≤ 1000000) (w : World) : (Instr.makeSlice 63 (.int .i64 (n : Int)) (.int .i64 (n : Int))).run Tryz.prog w =
  .ok (.slice (some ⟨w.heap.size, 0, none⟩) n n) (w.alloc (.cells (Array.replicate n (.int .i64 0)) 3 (0, 0))) := by
 obtain ⟨i0, hi, hz0, hz1, hz2⟩ := info_parts infoInt
 have h := run_make w 63 3 i0 (.int .i64 0) Tryz.underlying63 hi hz0 .i64 .i64 (n : Int) (n : Int) (by omega) (Int.le_refl _) (by rw [hz2]; omega) (by omega)
 rw [h, hz1]
 rw [Int.toNat_natCast, Nat.mul_one]
 congr 2
 congr 1
 apply Array.ext
 ·simp [madeCells]
 ·intro i h1 h2
  simp [madeCells, Value.cells, Nat.mod_one]

structure CntAt (w0 wr : World) (rb n : Nat) (f : Nat → Nat) : Prop where
 ext : Ext w0 wr
 lo : w0.heap.size ≤ rb
 tab : TabAt wr rb 3 n (fun k => IN (f k))
theorem CntAt.grow {w0 wr w' : World} {rb n : Nat} {f : Nat → Nat} (h : CntAt w0 wr rb n f) (ho : Ext wr w') : CntAt w0 w' rb n f := ⟨h.ext.then ho, h.lo, h.tab.ext ho⟩
theorem CntAt.add {w0 wr : World} {rb n : Nat} {f : Nat → Nat} (h : CntAt w0 wr rb n f) (k : Nat) : CntAt w0 (wr.setCell ⟨rb, k, none⟩ (IN (f k + 1))) rb n (fun i => if i = k then f i + 1 else f i) :=
 ⟨h.ext.thenSet _ (.inr h.lo), h.lo, (h.tab.set k _).congr fun i _ => by
  show (if i = k then IN (f k + 1) else IN (f i)) = IN (if i = k then f i + 1 else f i)
  by_cases hk : i = k
  ·subst hk; rw [if_pos rfl, if_pos rfl]
  ·rw [if_neg hk, if_neg hk]⟩
theorem count_take {l : List Nat} {j x : Nat} (h : l[j]? = some x) (k : Nat) : (l.take (j + 1)).count k = if k = x then (l.take j).count k + 1 else (l.take j).count k := by
 rw [List.take_add_one, h, Option.toList_some, List.count_append, List.count_singleton]
 by_cases hk : k = x
 ·subst hk; simp
 ·have : (x == k) = false := beq_eq_false_iff_ne.2 (fun e => hk e.symm)
  rw [this, if_neg hk]; rfl

set_option maxRecDepth 100000 in
set_option maxHeartbeats 16000000 in
theorem walkPickSame (w : World) (P : Nat → Addr) (fs : FL) (v0 v1 v2 v3 : Value) (l : List Rule) (p1s p2s : List Int) (hv0 : RdS 2 encF w v0 fs) (hv1 : RdR w v1 l) (hv2 : Rd I w v2 p1s) (hv3 : Rd I w v3 p2s) (h64a : ∀ p ∈ p1s, In64 p) (h64b : ∀ p ∈ p2s, In64 p) (hV : PV w P [1, 2, 3, 4, 5, 6, 7, 8, 9, 10, 11]) :
  Calls Tryz.prog 14 #[v0, v1, v2, v3] w (RetE (.bool true) w) := by
 have H0 := Lib.hid hv0
 have H1 := Lib.hid hv1
 have H2 := Lib.hid hv2
 have H3 := Lib.hid hv3
 have H64A := Lib.hid h64a
 have H64B := Lib.hid h64b
 have HVV := Lib.hid hV
 have HBU := Lib.hid (picked_any w P hV)
 obtain ⟨a0, q0, rfl, _, _, _⟩ := hv0
 obtain ⟨a1, q1, rfl, _, _, hc1⟩ := hv1
 obtain ⟨a2, q2, rfl, _, hm2, _⟩ := hv2
 obtain ⟨a3, q3, rfl, _, hm3, _⟩ := hv3
 have HC1 := Lib.hid hc1
 have hr2 : p1s.length ≤ 9223372036854775807 := by unfold maxLen at hm2; omega
 have hr3 : p2s.length ≤ 9223372036854775807 := by unfold maxLen at hm3; omega
 clear hV hc1 hm2 hm3 h64a h64b
 go_enter Tryz.func14, Tryz.ntmps14
 go_wp2_with fail
 refine (HBU.out).mono ?_
 rintro e w1 ⟨rfl, ho⟩
 have HX1 := Lib.hid ho
 clear ho
 go_wp2_with fail
 refine (longFiles3_any w1 _ fs (RdS.ext H0.out HX1.out)).mono ?_
 rintro e w2 ⟨r, rfl, hz, rfl⟩
 have HZ0 := Lib.hid hz
 clear hz
 cases r with
 | true =>
  go_wp2_with fail
  go_ret
  exact ⟨rfl, HX1.out⟩
 | false =>
  go_wp2_with fail
  refine (longRules_any w1 _ l 12 (H1.out.ext HX1.out)).mono ?_
  rintro e w2 ⟨⟨r, rfl, hr, hz⟩, rfl⟩
  have HZ2 := Lib.hid hz
  clear hz
  rcases hr with rfl | rfl
  case inr =>
   go_wp2_with fail
   go_ret
   exact ⟨rfl, HX1.out⟩
  case inl =>
   have HSH := Lib.hid (HZ2.out rfl).2
   have HSM : Hid (∀ r ∈ l, RuleSm 900000 r) := Lib.hid (fun r hr => (HSH.out r hr).sm)
   have h41 : l.length ≤ 41 := by rcases (HZ2.out rfl).1 with h | h <;> omega
   have hlz : (l.length : Int) ≤ 41 := by omega
   have HIL : Hid (∀ r ∈ l, r.ins.length ≤ 1000000) := Lib.hid (fun r hr => by have := (HSH.out r hr).many; omega)
   have HSS : Hid (∀ r ∈ l, ShortR r) := HSH
   have hf30 := (HZ0.out (by simp)).1
   have HFP := Lib.hid (HZ0.out (by simp)).2
   clear HZ2 HSH HZ0
   by_cases hlo : (60 : Int) < (p1s.length : Int)
   ·go_wp2_with fail
    go_ret
    exact ⟨rfl, HX1.out⟩
   by_cases hlo2 : (60 : Int) < (p2s.length : Int)
   ·go_wp2_with fail
    go_ret
    exact ⟨rfl, HX1.out⟩
   have hrz : (p1s.length : Int) ≤ 60 := by omega
   have hrz2 : (p2s.length : Int) ≤ 60 := by omega
   go_wp2_with fail
   refine (fileTree3_any w1 P _ fs (RdS.ext H0.out HX1.out) (by omega) HFP.out ((HVV.out.ext HX1.out).errs.sub (by decide)) (HVV.out.ext HX1.out).max).mono ?_
   rintro e w3 ⟨b1, mb1, m1, slv1, rfl, hT1⟩
   have HX3 := Lib.hid (HX1.out.then hT1.ext)
   have HTR : Hid (TreeAt w3 b1 mb1 (treeOfF fs)) := Lib.hid hT1.tree
   have HFT : Hid (FTree (treeOfF fs)) := Lib.hid (by have := ftree_of HFP.out fs.length; rwa [List.take_length] at this)
   clear hT1 hlo hlo2
   generalize treeOfF fs = T at HTR HFT
   go_wp2_with fail
   obtain ⟨bs, hbs⟩ : ∃ bs, bs = w3.heap.size := ⟨_, rfl⟩
   have HBS : Hid (w3.heap.size ≤ bs ∧ bs ≤ w3.heap.size) := Lib.hid ⟨by omega, by omega⟩
   clear hbs
   go_loopw [12, 13] (fun q i wr => ∃ (j : Nat) (qv : Value), qv = q ∧ j ≤ l.length ∧ i = .int .i64 j ∧ Hid (Row bs wr qv ((l.take j).map Rule.out)) ∧ Hid (Ext w3 wr)) (fun _ i _ => l.length - (intOf i).toNat)
   case atStart => exact ⟨0, _, rfl, Nat.zero_le _, rfl, Lib.hid (Row.nil _ _), Lib.hid (Only.refl _ _)⟩
   case round =>
    obtain ⟨j, qv, rfl, hj, rfl, HQ, HX⟩ := hrel
    by_cases hlt : j < l.length
    ·have hltz : (j : Int) < (l.length : Int) := by omega
     have hj0 : (0 : Int) ≤ (j : Int) := by omega
     obtain ⟨b, off, rfl, hcell⟩ := HC1.out (by intro h; rw [h] at hlt; simp at hlt)
     obtain ⟨r, hq⟩ : ∃ y, l[j]? = some y := ⟨_, List.getElem?_eq_getElem hlt⟩
     obtain ⟨u, hu, c0, _, _, _⟩ := hcell j r hq
     have d0 := (HX3.out.then HX.out).cellOf c0 (fun h => h)
     have HTK : Hid ((l.take (j + 1)).map Rule.out = (l.take j).map Rule.out ++ [r.out]) := Lib.hid (by rw [List.take_add_one, hq]; simp)
     have HQL : Hid (((l.take j).map Rule.out).length ≤ 1000000) := Lib.hid (by rw [List.length_map, List.length_take]; omega)
     clear hcell hq hu c0
     generalize (l.take j).map Rule.out = os at HQ HTK HQL
     go_wp2_with (at_builtin; refine wpText rfl (.tmp 63) (.tmp 69) w3 bs _ os r.out wr rfl rfl rfl rfl HQ.out HQL.out (Nat.le_trans HBS.out.2 HX.out.size) HX.out HBS.out.1 ?_; intro g5 cap5 w5 HR5 HX5 _)
     go_roundw
     case rel => exact ⟨j + 1, _, rfl, by omega, by go_num, by rw [HTK.out]; exact HR5, HX5⟩
     case measure => simp [intOf]; omega
    ·-- THE END OF LOOP 1
     have hltz : ¬ (j : Int) < (l.length : Int) := by omega
     rw [List.take_of_length_le (by omega)] at HQ
     obtain ⟨os, hos⟩ : ∃ os, os = l.map Rule.out := ⟨_, rfl⟩
     rw [← hos] at HQ
     have HOS := Lib.hid hos
     have hol : os.length ≤ 1000 := by rw [hos, List.length_map]; omega
     have HOL := Lib.hid hol
     clear hos hol hj hlt
     have HRQ := Lib.hid HQ.out.rd
     have hrdq := HQ.out.rd
     obtain ⟨aq, pq, rfl, _, _, _⟩ := hrdq
     have HY4 := Lib.hid HX.out
     have HX4 := Lib.hid (HX3.out.then HX.out)
     by_cases hf : (newFault l os).1 = 0
     case neg =>
      go_wp2_with fail
      refine (ownRules_any wr _ l (H1.out.ext HX4.out) (by omega) HIL.out).mono ?_
      rintro e w5 ⟨v5, rfl, hr5, ho5⟩
      have HX5 := Lib.hid (HX4.out.then ho5)
      have HY5 := Lib.hid (HY4.out.then ho5)
      have HNEW := Lib.hid (new_any w5 P b1 mb1 T v5 (.slice aq os.length pq) none l os (HTR.out.ext HY5.out) hr5 (HRQ.out.ext ho5) HOL.out HSM.out ((HVV.out.ext HX5.out).sub (by decide)))
      obtain ⟨a5, p5, rfl, _, _, _⟩ := hr5
      have HQ5 := Lib.hid ho5
      clear ho5
      go_wp2_with fail
      refine HNEW.out.mono ?_
      rintro e w6 ⟨vb, ev, rfl, he, ho6, hcase⟩
      have HX6 := Lib.hid (HX5.out.then ho6)
      have HY6 := Lib.hid (HY5.out.then ho6)
      have HQ6 := Lib.hid (HQ5.out.then ho6)
      rcases hcase with ⟨_, rfl⟩ | ⟨hf0, _⟩
      case inr => exact absurd hf0 hf
      obtain ⟨t5, q5, rfl⟩ := he.some hf
      clear he ho6 HNEW
      go_wp2_with fail
      refine (ownRules_any w6 _ l (H1.out.ext HX6.out) (by omega) HIL.out).mono ?_
      rintro e w7 ⟨v7, rfl, hr7, ho7⟩
      have HX7 := Lib.hid (HX6.out.then ho7)
      have HY7 := Lib.hid (HY6.out.then ho7)
      have HQ7 := Lib.hid (HQ6.out.then ho7)
      have HNEW := Lib.hid (new_any w7 P b1 mb1 T v7 (.slice aq os.length pq) none l os (HTR.out.ext HY7.out) hr7 (HRQ.out.ext HQ7.out) HOL.out HSM.out ((HVV.out.ext HX7.out).sub (by decide)))
      obtain ⟨a7, p7, rfl, _, _, _⟩ := hr7
      clear ho7
      go_wp2_with fail
      refine HNEW.out.mono ?_
      rintro e w8 ⟨vb, ev, rfl, he, ho8, hcase⟩
      have HX8 := Lib.hid (HX7.out.then ho8)
      rcases hcase with ⟨_, rfl⟩ | ⟨hf0, _⟩
      case inr => exact absurd hf0 hf
      obtain ⟨t7, q7, rfl⟩ := he.some hf
      clear he ho8 HNEW
      go_wp2_with fail
      go_ret
      exact ⟨rfl, HX8.out⟩
     case pos =>
      go_wp2_with fail
      refine (ownRules_any wr _ l (H1.out.ext HX4.out) (by omega) HIL.out).mono ?_
      rintro e w5 ⟨v5, rfl, hr5, ho5⟩
      have HX5 := Lib.hid (HX4.out.then ho5)
      have HY5 := Lib.hid (HY4.out.then ho5)
      have HNEW := Lib.hid (new_any w5 P b1 mb1 T v5 (.slice aq os.length pq) none l os (HTR.out.ext HY5.out) hr5 (HRQ.out.ext ho5) HOL.out HSM.out ((HVV.out.ext HX5.out).sub (by decide)))
      obtain ⟨a5, p5, rfl, _, _, _⟩ := hr5
      have HQ5 := Lib.hid ho5
      clear ho5
      go_wp2_with fail
      refine HNEW.out.mono ?_
      rintro e w6 ⟨vb, ev, rfl, he, ho6, hcase⟩
      have HX6 := Lib.hid (HX5.out.then ho6)
      have HY6 := Lib.hid (HY5.out.then ho6)
      have HQ6 := Lib.hid (HQ5.out.then ho6)
      rcases hcase with ⟨hf0, _⟩ | ⟨_, Ka, rfl, hcp5, hb6⟩
      case inl => exact absurd hf hf0
      obtain rfl := he.zero hf
      have HCP5 := Lib.hid hcp5
      have HB6 := Lib.hid hb6
      clear he ho6 HNEW hcp5 hb6
      go_wp2_with fail
      refine (ownRules_any w6 _ l (H1.out.ext HX6.out) (by omega) HIL.out).mono ?_
      rintro e w7 ⟨v7, rfl, hr7, ho7⟩
      have HX7 := Lib.hid (HX6.out.then ho7)
      have HY7 := Lib.hid (HY6.out.then ho7)
      have HZ7 := Lib.hid ho7.size
      have HW67 := Lib.hid ho7
      have HQ7 := Lib.hid (HQ6.out.then ho7)
      have HNEW := Lib.hid (new_any w7 P b1 mb1 T v7 (.slice aq os.length pq) none l os (HTR.out.ext HY7.out) hr7 (HRQ.out.ext HQ7.out) HOL.out HSM.out ((HVV.out.ext HX7.out).sub (by decide)))
      obtain ⟨a7, p7, rfl, _, _, _⟩ := hr7
      clear ho7
      go_wp2_with fail
      refine HNEW.out.mono ?_
      rintro e w8 ⟨vb, ev, rfl, he, ho8, hcase⟩
      have HX8 := Lib.hid (HX7.out.then ho8)
      have HR6 := Lib.hid (HW67.out.then ho8)
      rcases hcase with ⟨hf0, _⟩ | ⟨_, Kb, rfl, hcp7, hb8⟩
      case inl => exact absurd hf hf0
      obtain rfl := he.zero hf
      have HCP7 := Lib.hid hcp7
      have HB8 := Lib.hid hb8
      clear he ho8 HNEW hcp7 hb8
      obtain ⟨hrs, _, o, hpo⟩ := newFault_ok hf
      have hall : needL l os = List.range l.length := by rw [HOS.out]; exact need_rng hrs.2.2
      have HWL : Hid (OnceW (newE l os T) o (fun i => (needL l os).contains i) l) := Lib.hid ⟨new_well hrs hpo HFT.out.bytes, rfl, hall⟩
      have HLN : Hid (BLens (newE l os T)) := Lib.hid (BLens.of hrs HSS.out (fun i hi => by rw [hall] at hi; exact List.mem_range.1 hi) (by rw [hall, List.length_range]; omega))
      generalize (fun i => (needL l os).contains i) = is at HWL
      generalize newE l os T = E at HWL HLN HB6 HB8
      have HG : Hid ((∀ i, InBld E Ka i → w5.heap.size ≤ i ∧ i < w7.heap.size) ∧ (∀ i, InBld E Kb i → w7.heap.size ≤ i ∧ i < w8.heap.size)) := Lib.hid ⟨fun i hi => ⟨HB6.out.ge i hi, by have := HB6.out.lt i hi; have := HZ7.out; omega⟩, fun i hi => ⟨HB8.out.ge i hi, HB8.out.lt i hi⟩⟩
      have HB68 := Lib.hid (HB6.out.ext HR6.out)
      have hsw5 := HX5.out.size
      have hsw7 := HX7.out.size
      -- the first picks
      have hkA := PkA.keeps (w0 := w) (P := P) (base := w5.heap.size) (E := E) (K := Ka) (R := fun wq => BldAt wq P w7.heap.size E Kb .new) (own := fun i => InBld E Ka i ∨ InBld E Kb i) HCP5.out HWL.out.well HLN.out (HVV.out.sub (by decide))
       (fun i hi => ⟨by have := HG.out.1 i hi; omega, .inl hi⟩) (fun wa wb q h ho hq => h.later ho (fun i hi e => by
        rcases hq i e with h2 | ⟨h2, _⟩
        ·have := HG.out.1 i h2; have := HG.out.2 i hi; omega
        ·exact h2 (.inr hi)))
      have hpA := pickRun_any _ _ _ _ _ P _ E Ka o is w8 .new p1s (.slice a2 p1s.length q2) hkA ⟨HB68.out, BInv.new _, HX8.out, HB8.out, fun _ => rfl⟩ HWL.out.well HLN.out (fun wq x h => H2.out.ext h.ext) H64A.out (by omega) (fun i hi => by
       rcases hi with hi | hi
       ·have := HB68.out.lt i hi; exact this
       ·exact (HG.out.2 i hi).2)
      have HPA := Lib.hid hpA
      clear hkA hpA hf hrs hpo hall
      go_wp2_with fail
      refine HPA.out.mono ?_
      rintro e w9 ⟨vx, o1, o2, x1, ya, rfl, hrx, hA, hk1, hk2⟩
      obtain ⟨X, hX⟩ : ∃ X, X = o1 ++ o2 := ⟨_, rfl⟩
      rw [← hX] at hrx
      have hran : Ran E (fun s => s) .new ya X ∧ readyL E ya = [] := by
       rw [hX]
       exact picks_ran hk1 hk2
      have HRA := Lib.hid hran
      have HRX := Lib.hid hrx
      have HA9 := Lib.hid hA
      have hbx : ∀ i, vx.ownBlock = some i → w8.heap.size ≤ i ∧ i < w9.heap.size := fun i hi => hrx.lt i hi
      have HBX := Lib.hid hbx
      have hsw9 := hA.ext.size
      -- the second ones
      have hkB := PkA.keeps (w0 := w) (P := P) (base := w7.heap.size) (E := E) (K := Kb) (R := fun wq => BldAt wq P w5.heap.size E Ka ya ∧ RowI w8.heap.size wq vx X) (own := fun i => (InBld E Ka i ∨ InBld E Kb i) ∨ vx.ownBlock = some i) HCP7.out HWL.out.well HLN.out (HVV.out.sub (by decide))
       (fun i hi => ⟨by have := HG.out.2 i hi; omega, .inl (.inr hi)⟩) (fun wa wb q h ho hq => ⟨h.1.later ho (fun i hi e => by
        rcases hq i e with h2 | ⟨h2, _⟩
        ·have := HG.out.1 i hi; have := HG.out.2 i h2; omega
        ·exact h2 (.inl (.inl hi))), ho.row h.2 (fun i hi e => by
        rcases hq i e with h2 | ⟨h2, _⟩
        ·have := HG.out.2 i h2; have := HBX.out i hi; omega
        ·exact h2 (.inr hi))⟩)
      have hpB := pickRun_any _ _ _ _ _ P _ E Kb o is w9 .new p2s (.slice a3 p2s.length q3) hkB ⟨hA.rest, BInv.new _, hA.ext, ⟨hA.bld, hrx⟩, fun _ => rfl⟩ HWL.out.well HLN.out (fun wq x h => H3.out.ext h.ext) H64B.out (by omega) (fun i hi => by
       rcases hi with (hi | hi) | hi
       ·exact hA.bld.lt i hi
       ·exact hA.rest.lt i hi
       ·exact (HBX.out i hi).2)
      have HPB := Lib.hid hpB
      obtain ⟨ax, cx, rfl, _, _, _⟩ := hrx.rd
      clear hkB hpB hrx hA hk1 hk2 hX hran hbx hsw9 HPA HRX
      go_wp2_with fail
      refine HPB.out.mono ?_
      rintro e w10 ⟨vy, o3, o4, y1, yb, rfl, hry, hA, hk1, hk2⟩
      obtain ⟨Y, hY⟩ : ∃ Y, Y = o3 ++ o4 := ⟨_, rfl⟩
      rw [← hY] at hry
      have hran : Ran E (fun s => s) .new yb Y ∧ readyL E yb = [] := by
       rw [hY]
       exact picks_ran hk1 hk2
      obtain ⟨hov1, hov2, hst, hlen, hmx, hmy, hcn⟩ := ran_same HWL.out.well HA9.out.inv hA.inv HRA.out.1 hran.1 HRA.out.2 hran.2
      have HST := Lib.hid hst
      have HMX := Lib.hid (fun i (hi : i ∈ X) => HWL.out.mem.1 (hmx i hi))
      have HMY := Lib.hid (fun i (hi : i ∈ Y) => HWL.out.mem.1 (hmy i hi))
      have HCN := Lib.hid hcn
      have HOV1 := Lib.hid hov1
      have HOV2 := Lib.hid hov2
      have HEX := Lib.hid hA.ext
      have HBA := Lib.hid hA.rest.1
      have HBB := Lib.hid hA.bld
      have HIA := Lib.hid HA9.out.inv
      have HIB := Lib.hid hA.inv
      have HRX := Lib.hid hA.rest.2.rd
      have HRY := Lib.hid hry.rd
      have hcs := cnt_same hst HA9.out.nohit hA.nohit
      have hca := fun (wq : World) (hx : Ext w10 wq) => countB_any wq P w5.heap.size E Ka ya (HBA.out.ext hx) HWL.out.well.rise HLN.out.few HIA.out
      have hcb := fun (wq : World) (hx : Ext w10 wq) => countB_any wq P w7.heap.size E Kb yb (HBB.out.ext hx) HWL.out.well.rise HLN.out.few HIB.out
      rw [hcs] at hca
      unfold cntV at hca hcb
      have HCA := Lib.hid hca
      have HCB := Lib.hid hcb
      obtain ⟨ay, cy, rfl, _, _, hcy⟩ := hry.rd
      obtain ⟨_, _, e5, _, _, hcx⟩ := hA.rest.2.rd
      cases e5
      have HCX := Lib.hid hcx
      have HCY := Lib.hid hcy
      have hlxl : X.length ≤ 41 := by
       have h1 := nodup_len HRA.out.1.once (b := List.range l.length) (fun x hx => List.mem_range.2 (HMX.out x hx))
       rw [List.length_range] at h1
       omega
      clear hry hA hk1 hk2 hY hran hov1 hov2 hst hmx hmy hcn hcs hca hcb hcx hcy HPB
      rw [← hlen]
      have HLY : Hid (Y.length = X.length) := Lib.hid hlen.symm
      have hlxz : (X.length : Int) ≤ 41 := by omega
      clear hlen
      generalize E.sm.countP (cRan yb) = n1 at HCA HCB
      generalize E.sm.countP (cHit yb) = n2 at HCA HCB
      generalize E.sm.countP (cFail yb) = n3 at HCA HCB
      generalize E.sm.countP (cLeft yb) = n4 at HCA HCB
      go_wp2_with fail
      refine (HCA.out w10 (Only.refl _ _)).mono ?_
      rintro e w11 ⟨rfl, ho11⟩
      have HX11 := Lib.hid ho11
      clear ho11
      go_wp2_with fail
      refine (HCB.out w11 HX11.out).mono ?_
      rintro e w12 ⟨rfl, ho12⟩
      have HX12 := Lib.hid (HX11.out.then ho12)
      clear ho12
      have hmk := run_ints l.length (by omega) w12
      have HCT0 : Hid (CntAt w10 (w12.alloc (.cells (Array.replicate l.length (.int .i64 0)) 3 (0, 0))) w12.heap.size l.length (fun _ => 0)) := Lib.hid ⟨HX12.out.thenAlloc _, HX12.out.size, TabAt.made w12 _ _ _⟩
      obtain ⟨rb, hrb⟩ : ∃ rb, rb = w12.heap.size := ⟨_, rfl⟩
      go_wp2_with fail
      generalize (w12.alloc (.cells (Array.replicate l.length (.int .i64 0)) 3 (0, 0))) = w13 at HCT0 ⊢
      rw [← hrb] at HCT0 ⊢
      clear hrb hmk HCA HCB
      go_loopw [21] (fun i wr => ∃ (j : Nat) (f : Nat → Nat), j ≤ X.length ∧ i = .int .i64 j ∧ Hid (CntAt w10 wr rb l.length f) ∧ Hid (∀ k, f k = (X.take j).count k + (Y.take j).count k)) (fun i _ => X.length - (intOf i).toNat)
      case atStart => exact ⟨0, _, Nat.zero_le _, rfl, HCT0, Lib.hid (fun k => by simp)⟩
      case round =>
       clear HCT0
       obtain ⟨j, f, hj, rfl, HCT, HF⟩ := hrel
       by_cases hlt : j < X.length
       ·have hltz : (j : Int) < (X.length : Int) := by omega
        have hj0 : (0 : Int) ≤ (j : Int) := by omega
        have hj1 : ¬ (j : Int) < 0 := by omega
        have hj2 : ¬ (X.length : Int) ≤ (j : Int) := by omega
        have hlty : j < Y.length := by have := HLY.out; omega
        obtain ⟨x, hx⟩ : ∃ x, X[j]? = some x := ⟨_, List.getElem?_eq_getElem hlt⟩
        obtain ⟨y, hy⟩ : ∃ y, Y[j]? = some y := ⟨_, List.getElem?_eq_getElem hlty⟩
        obtain ⟨bx, ox, rfl, hcx⟩ := HCX.out (by intro h; rw [h] at hlt; simp at hlt)
        obtain ⟨by_, oy, rfl, hcy⟩ := HCY.out (by intro h; rw [h] at hlty; simp at hlty)
        have HDX := Lib.hid (hcx j x hx)
        have HDY := Lib.hid (hcy j y hy)
        have d1 := HCT.out.ext.cellOf HDX.out (fun h => h)
        have d2 := HCT.out.ext.cellOf HDY.out (fun h => h)
        have hxl := HMX.out x (List.mem_of_getElem? hx)
        have hyl := HMY.out y (List.mem_of_getElem? hy)
        have hxz : (x : Int) < (l.length : Int) := by omega
        have hx0 : (0 : Int) ≤ (x : Int) := by omega
        have hx1 : ¬ (x : Int) < 0 := by omega
        have hx2 : ¬ (l.length : Int) ≤ (x : Int) := by omega
        have hyz : (y : Int) < (l.length : Int) := by omega
        have hy0 : (0 : Int) ≤ (y : Int) := by omega
        have hy1 : ¬ (y : Int) < 0 := by omega
        have hy2 : ¬ (l.length : Int) ≤ (y : Int) := by omega
        have HFB : Hid (∀ k, f k ≤ 82) := Lib.hid (fun k => by
         have h1 := List.count_le_length (a := k) (l := X.take j)
         have h2 := List.count_le_length (a := k) (l := Y.take j)
         rw [List.length_take] at h1 h2
         have := HF.out k
         have := HLY.out
         omega)
        have HF2 : Hid (∀ k, (if k = y then (if k = x then f k + 1 else f k) + 1 else (if k = x then f k + 1 else f k)) = (X.take (j + 1)).count k + (Y.take (j + 1)).count k) := Lib.hid (fun k => by
         rw [count_take hx, count_take hy, HF.out k]
         split <;> split <;> omega)
        have t1 := HCT.out.tab.cell hxl
        have f1 := HCT.out.tab.free x
        have HYL := Lib.hid hyl
        have HLT := Lib.hid hlt
        have hfx : (f x : Int) ≤ 82 := by have := HFB.out x; omega
        have h13 := HCT.out.add x
        rw [← in_succ] at h13
        have H13 := Lib.hid h13
        clear hcx hcy hx hy hxl hyl hlt hlty h13
        go_upto_region 27 with fail
        clear t1 f1 d1 d2 hfx
        generalize (wr.setCell ⟨rb, x, none⟩ (.int .i64 ((f x : Int) + 1))) = w14 at H13 ⊢
        have d2 := H13.out.ext.cellOf HDY.out (fun h => h)
        obtain ⟨g, hg⟩ : ∃ g : Nat → Nat, g = fun i => if i = x then f i + 1 else f i := ⟨_, rfl⟩
        rw [← hg] at H13
        have hgy : (g y : Int) ≤ 83 := by have := HFB.out y; rw [hg]; simp only; split <;> omega
        have t1 := H13.out.tab.cell HYL.out
        have f1 := H13.out.tab.free y
        have h15 := H13.out.add y
        rw [← in_succ] at h15
        have H15 := Lib.hid h15
        have HF3 : Hid (∀ k, (if k = y then g k + 1 else g k) = (X.take (j + 1)).count k + (Y.take (j + 1)).count k) := Lib.hid (fun k => by rw [hg]; exact HF2.out k)
        clear hg h15
        go_wp2_with fail
        go_roundw
        case rel => exact ⟨j + 1, _, HLT.out, by go_num, H15, HF3⟩
        case measure => have := HLT.out; simp [intOf]; omega
       ·have hltz : ¬ (j : Int) < (X.length : Int) := by omega
        have HF4 : Hid (∀ k, f k = 0 ∨ f k = 2) := Lib.hid (fun k => by
         have h1 := HF.out k
         rw [List.take_of_length_le (by omega), List.take_of_length_le (by have := HLY.out; omega)] at h1
         rw [h1]
         exact HCN.out k)
        clear hj hlt HF
        go_wp2_with fail
        have HCT1 := HCT
        go_loopw [22, 23, 24, 25, 26] (fun i _ _ _ _ wx => ∃ k : Nat, k ≤ l.length ∧ i = .int .i64 k ∧ Hid (CntAt w10 wx rb l.length f)) (fun i _ _ _ _ _ => l.length - (intOf i).toNat)
        case atStart => exact ⟨0, Nat.zero_le _, rfl, HCT1⟩
        case round =>
         clear HCT1 HCT
         obtain ⟨k, hk, rfl, HCT⟩ := hrel
         by_cases hkl : k < l.length
         ·have hkz : (k : Int) < (l.length : Int) := by omega
          have hk0 : (0 : Int) ≤ (k : Int) := by omega
          have hk1 : ¬ (k : Int) < 0 := by omega
          have hk2 : ¬ (l.length : Int) ≤ (k : Int) := by omega
          have hkm := HWL.out.mem.2 hkl
          have r1 := result_any (HBA.out.ext HCT.out.ext) (k : Int)
          have r2 := result_any (HBB.out.ext HCT.out.ext) (k : Int)
          rw [HWL.out.well.tells HIA.out HOV1.out hkm] at r1
          rw [HWL.out.well.tells HIB.out HOV2.out hkm] at r2
          have hs1 := fun (wq : World) (hx : Ext wr wq) => state_any (HBA.out.ext (HCT.out.ext.then hx)) HIA.out (k : Int)
          have hs2 := fun (wq : World) (hx : Ext wr wq) => state_any (HBB.out.ext (HCT.out.ext.then hx)) HIB.out (k : Int)
          rw [stateZ_in hkm, HST.out k hkm] at hs1
          rw [stateZ_in hkm] at hs2
          have HR1 := Lib.hid r1
          have HR2 := Lib.hid r2
          have HS1 := Lib.hid hs1
          have HS2 := Lib.hid hs2
          have HKL := Lib.hid hkl
          have hfk := HF4.out k
          have HTK := Lib.hid (fun (wq : World) (hx : Ext wr wq) => (HCT.out.tab.ext hx).cell hkl)
          generalize (E.ans k).1 = asx at HR1 HR2
          generalize ((E.ans k).2 == 0) = ab at HR1 HR2
          generalize stateB (yb.st k) = sb at HS1 HS2
          clear hkm r1 r2 hs1 hs2 hkl hk
          go_wp2_with fail
          refine HR1.out.mono ?_
          rintro e w20 ⟨rfl, rfl⟩
          go_wp2_with fail
          refine HR2.out.mono ?_
          rintro e w20 ⟨rfl, rfl⟩
          go_wp2_with fail
          refine (HS1.out wr (Only.refl _ _)).mono ?_
          rintro e w21 ⟨rfl, ho21⟩
          have HX21 := Lib.hid ho21
          clear ho21
          go_wp2_with fail
          refine (HS2.out w21 HX21.out).mono ?_
          rintro e w22 ⟨rfl, ho22⟩
          have HX22 := Lib.hid (HX21.out.then ho22)
          clear ho22
          have t1 := HTK.out w22 HX22.out
          have HCT2 := Lib.hid (HCT.out.grow HX22.out)
          clear HTK
          rcases hfk with hfk | hfk
          all_goals
           rw [hfk] at t1
           clear hfk
           go_wp2_with fail
           go_roundw
           case rel => exact ⟨k + 1, HKL.out, by go_num, HCT2⟩
           case measure => have := HKL.out; simp [intOf]; omega
         ·have hkz : ¬ (k : Int) < (l.length : Int) := by omega
          go_wp2_with fail
          go_ret
          exact ⟨rfl, HEX.out.then HCT.out.ext⟩
end Go.Proofs.YtnmhaipjfpongabGreatDoor
