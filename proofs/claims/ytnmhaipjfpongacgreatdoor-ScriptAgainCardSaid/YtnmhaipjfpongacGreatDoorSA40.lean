/- Texts of this seat laid together for one claim: Yb5. No condition of its own: what each proves stands with its theorems. -/
import Derived.Deep.CutBlock
import Derived.Deep.DeepCutAuto
import Derived.Deep.RegionHeld3
import Derived.Test.YtnmhaipjfpongacGreatDoorSA39
namespace Go.Proofs.YtnmhaipjfpongacGreatDoor
open Go.ChangeShapes Go.WideShapes Go.ChangeAt Go.RowKit

section
variable {w0 w : World} {D : Nat → Prop} {n : Nat} {sv lv : Value} {many : Nat} {T O L : FL} {l : List Rule}
def RetMk (P : Nat → Addr) (w0 w : World) (D : Nat → Prop) (n : Nat) (lv : Value) (many : Nat) (T O L : FL) (l : List Rule) (os : List B) (e : Ending) (w' : World) : Prop :=
  ∃ cv ev, e = .returned (.tuple #[.agg cv, ev]) ∧ ErrAt w' P (newFault l os) ev ∧
    (((newFault l os).1 ≠ 0 ∧ cv = #[IN 0, IN 0, IN 0, IN 0] ∧ Ext w w') ∨
     ((newFault l os).1 = 0 ∧ ∃ D2 sv' s L', AllTo (newE l os T) (·.1) (stepM (newE l os T)) (.new, some (many, L)) (s, some (many, L')) ∧ BInv (newE l os T) s ∧ (∀ i ∈ needL l os, s.st i ≠ 1) ∧ cv = cntV s (needL l os) ∧ YardAt w0 w' D2 n sv' lv many T (outY (newE l os T) s O (orderOut l)) L' l ∧ Moved D w w' D2))
theorem make_results (tmps : Array Value) (W : World) (h : Nat) (a b c d ev : Value) (h4 : tmps[4]? = some (.pointer (some ⟨h, 0, none⟩))) (h5 : tmps[5]? = some ev) (d0 : W.cell? ⟨h, 0, none⟩ = some a) (d1 : W.cell? ⟨h, 1, none⟩ = some b) (d2 : W.cell? ⟨h, 2, none⟩ = some c) (d3 : W.cell? ⟨h, 3, none⟩ = some d) :
  (results Tryz.f39 tmps).run Tryz.prog W = .ok (.tuple #[.agg #[a, b, c, d], ev]) W := by
 simp only [results, Tryz.results39]
 simp [go_sem, h4, h5, d0, d1, d2, d3]
theorem four_set {W : World} {h : Nat} {a b c d a' b' c' d' : Value} {t : TypeId} (hc : W.heap[h]? = some (.cells #[a, b, c, d] t (0, 0))) :
  ((((W.setCell ⟨h, 0, none⟩ a').setCell ⟨h, 1, none⟩ b').setCell ⟨h, 2, none⟩ c').setCell ⟨h, 3, none⟩ d').heap[h]? = some (.cells #[a', b', c', d'] t (0, 0)) ∧ Only (fun i => i = h) W ((((W.setCell ⟨h, 0, none⟩ a').setCell ⟨h, 1, none⟩ b').setCell ⟨h, 2, none⟩ c').setCell ⟨h, 3, none⟩ d') :=
 ⟨heap_setCell_same (heap_setCell_same (heap_setCell_same (heap_setCell_same hc 0 a') 1 b') 2 c') 3 d', (((Only.set (p := fun i => i = h) a' rfl).then (Only.set (p := fun i => i = h) b' rfl)).then (Only.set (p := fun i => i = h) c' rfl)).then (Only.set (p := fun i => i = h) d' rfl)⟩
theorem errAt_laid {w w' : World} {P : Nat → Addr} {f : Nat × Int} {v : Value} {g : Nat} {cs : Array Value} (h : ErrAt w P f v) (hg : w.heap[g]? = some (.cells cs 70 (0, 0))) (ho : Only (fun i => i = g) w w') : ErrAt w' P f v := by
 rcases h with h | h | ⟨h1, h2, b, h3, h4⟩
 ·exact .inl h
 ·exact .inr (.inl h)
 ·refine .inr (.inr ⟨h1, h2, b, h3, ho.heapOf h4 (fun e => ?_)⟩)
  have e : b = g := e
  subst e
  rw [hg] at h4
  simp only [Option.some.injEq, Obj.cells.injEq] at h4
  exact absurd h4.2.1 (by decide)
structure MkS (w0 w : World) (P : Nat → Addr) (base : Nat) (E : BE) (K : BK) (D D2 : Nat → Prop) (n : Nat) (sv lv : Value) (many : Nat) (T L : FL) (l : List Rule) (s : BS) (gc xc bo : Nat) (cx : Array Value) (v9 : Value) (od : List Nat) (U : FL) (wr : World) : Prop where
 at_ : MkAt w0 w P base E K D D2 n sv lv many T U L l s wr
 g : wr.heap[gc]? = some (.cells #[IN 0, IN 0, IN 0, IN 0] 70 (0, 0))
 x : wr.heap[xc]? = some (.cells cx 70 (0, 0))
 r : RowI bo wr v9 od
section
variable {wr w' : World} {P : Nat → Addr} {base : Nat} {E : BE} {K : BK} {D2 : Nat → Prop} {s : BS} {gc xc bo : Nat} {cx : Array Value} {v9 : Value} {od : List Nat} {U : FL}
theorem MkS.grow (h : MkS w0 w P base E K D D2 n sv lv many T L l s gc xc bo cx v9 od U wr) (ho : Ext wr w') : MkS w0 w P base E K D D2 n sv lv many T L l s gc xc bo cx v9 od U w' :=
 ⟨h.at_.grow ho, ho.heapOf h.g (fun h => h), ho.heapOf h.x (fun h => h), ho.row h.r (fun _ _ h => h)⟩
theorem MkS.lays {V : FL} (h : MkS w0 w P base E K D D2 n sv lv many T L l s gc xc bo cx v9 od U wr) (hn : n + 4 < gc ∧ n + 4 < xc ∧ n + 4 < bo) (ht : TreeAt w' (n + 5) (n + 4) V) (ho : Only (fun i => i = n + 4) wr w') (hf : FTree V) : MkS w0 w P base E K D D2 n sv lv many T L l s gc xc bo cx v9 od V w' :=
 ⟨h.at_.lays ht ho hf, ho.heapOf h.g (by omega), ho.heapOf h.x (by omega), ho.row h.r (fun i e e2 => by have := (h.r.lt i e).1; omega)⟩
theorem MkS.put (h : MkS w0 w P base E K D D2 n sv lv many T L l s gc xc bo cx v9 od U wr) (hn : n + 4 < gc ∧ n + 4 < xc ∧ n + 4 < bo) (hE : Errs w0 P [1, 3, 6, 7]) (hm : HasMax w0) (p y : B) (hp : p.length ≤ 1000) :
  Calls Tryz.prog 38 #[PTR (n + 5), S p, S y] wr (fun e w' => ∃ ev, e = .returned ev ∧ MkS w0 w P base E K D D2 n sv lv many T L l s gc xc bo cx v9 od (putT U p y) w') := by
 have hx := h.at_.yard.ext
 refine (treePut_any wr P (n + 5) (n + 4) U p y h.at_.yard.out h.at_.ft.fits (hE.ext hx) (hm.ext hx) (by omega) (fun q hq => by have := h.at_.ft.lens q hq; omega)).mono ?_
 rintro e w' ⟨rfl, h1, h2⟩
 exact ⟨_, rfl, h.lays hn h1 h2 (h.at_.ft.put p y hp)⟩
theorem MkS.remove (h : MkS w0 w P base E K D D2 n sv lv many T L l s gc xc bo cx v9 od U wr) (hn : n + 4 < gc ∧ n + 4 < xc ∧ n + 4 < bo) (hE : Errs w0 P [5]) (p : B) :
  Calls Tryz.prog 37 #[PTR (n + 5), S p] wr (fun e w' => ∃ ev, e = .returned ev ∧ MkS w0 w P base E K D D2 n sv lv many T L l s gc xc bo cx v9 od (delT U p) w') := by
 have hx := h.at_.yard.ext
 refine (treeRemove_any wr (n + 5) (n + 4) U p (P 5) h.at_.yard.out ((hE.ext hx).var 5 _ (by decide) rfl)).mono ?_
 rintro e w' ⟨rfl, h1, h2⟩
 exact ⟨_, rfl, h.lays hn h1 h2 ⟨h.at_.ft.fits.del p, fun q hq => h.at_.ft.lens q (List.mem_filter.1 hq).1⟩⟩
end
def RetNw (P : Nat → Addr) (l : List Rule) (os : List B) (T : FL) (n : Nat) (w : World) (e : Ending) (w' : World) : Prop :=
 ∃ w1 vb ev, e = .returned (.tuple #[vb, ev]) ∧ Ext w w1 ∧ Ext w1 w' ∧ ErrAt w' P (newFault l os) ev ∧
  (((newFault l os).1 ≠ 0 ∧ vb = .pointer none) ∨ ((newFault l os).1 = 0 ∧ ∃ K : BK, vb = PTR K.b ∧ K.cp = PTR (n + 1) ∧ BldAt w' P w1.heap.size (newE l os T) K .new))
set_option maxRecDepth 100000 in
set_option maxHeartbeats 16000000 in
theorem yardMake_any (P : Nat → Addr) (vo : Value) (outs os : List B) (h : YardAt w0 w D n sv lv many T O L l) (hvo : Rd S w vo outs) (hno : outs.length ≤ 1000) (hos : os = outsY l outs) (hof : (orderFault l).1 = 0) (hT : FTree T) (hO : FTree O) (hV : PV w0 P [1, 2, 3, 4, 5, 6, 7, 8, 9, 10, 11]) :
  Calls Tryz.prog 39 #[PTR (n + 6), vo] w (RetMk P w0 w D n lv many T O L l os) := by
 obtain ⟨hR, hOr⟩ := orderFault_ok hof
 have hsh := right_short hR
 have h40 := hR.1
 have HSM : Hid (∀ r ∈ l, RuleSm 900000 r) := Lib.hid (fun r hr => (hsh r hr).sm)
 have HSH := Lib.hid hsh
 have HR := Lib.hid hR
 have HOR := Lib.hid hOr
 have HOF := Lib.hid hof
 have HH := Lib.hid h
 have HV := Lib.hid hV
 have HT := Lib.hid hT
 have HO := Lib.hid hO
 have HVO := Lib.hid hvo
 have HOSL : Hid (os.length ≤ 1000) := Lib.hid (by
  rw [hos]
  unfold outsY
  split
  ·rw [List.length_map]; omega
  ·exact hno)
 have HOS := Lib.hid hos
 have HNO := Lib.hid hno
 have HLOW : Hid (w0.heap.size ≤ w.heap.size ∧ n + 6 < w.heap.size ∧ w0.heap.size ≤ n) := Lib.hid ⟨h.ext.size, h.lt _ (h.own _ (by omega) (by omega)), h.low⟩
 obtain ⟨al, cl, hlv, _, _, _⟩ := h.rules.rd
 subst hlv
 obtain ⟨ao, co, rfl, _, _, _⟩ := hvo
 clear h hR hOr hsh hof hV hT hO hno hos
 go_enter Tryz.func39, Tryz.ntmps39
 go_upto_if 16 with fail
 have HXA : Hid (Ext w (w.alloc (.cells #[IN 0, IN 0, IN 0, IN 0] 70 (0, 0)))) := Lib.hid (Only.alloc _ _ _)
 have HGA := Lib.hid (MapKept.heap_alloc w (.cells #[IN 0, IN 0, IN 0, IN 0] 70 (0, 0))).1
 obtain ⟨gc, hgc⟩ : ∃ gc, gc = w.heap.size := ⟨_, rfl⟩
 rw [← hgc] at HGA ⊢
 have HGC := Lib.hid hgc
 clear hgc
 generalize (w.alloc (.cells #[IN 0, IN 0, IN 0, IN 0] 70 (0, 0))) = wA at HXA HGA ⊢
 go_cut [1] (fun v wx => ∃ (a1 : Option Addr) (c1 : Nat), v = .slice a1 os.length c1 ∧ Hid (Rd S wx (.slice a1 os.length c1) os) ∧ Hid (Ext wA wx))
 case first =>
  by_cases he : outs = []
  case pos =>
   have HE : Hid (os = l.map Rule.out) := Lib.hid (by rw [HOS.out]; exact if_pos he)
   have hz : outs.length = 0 := by rw [he]; rfl
   rw [hz]
   clear he hz
   go_wp2_with fail
   refine (yardOuts_any (HH.out.grow HXA.out) (by omega)).mono ?_
   rintro e w1 ⟨v1, rfl, hr1, ho1⟩
   rw [← HE.out] at hr1
   have HR1 := Lib.hid hr1.rd
   have HO1 := Lib.hid ho1
   obtain ⟨a1, c1, rfl, _, _, _⟩ := hr1.rd
   clear hr1 ho1
   go_wp2_with fail
   go_meet
   exact ⟨_, _, rfl, HR1, HO1⟩
  case neg =>
   have HE : Hid (os = outs) := Lib.hid (by rw [HOS.out]; exact if_neg he)
   have hz : ¬ (outs.length : Int) = 0 := by
    have := List.length_pos_iff.2 he
    omega
   have hzb : ((outs.length : Int) == 0) = false := beq_eq_false_iff_ne.2 hz
   clear he
   go_wp2_with fail
   go_meet
   exact ⟨_, _, by rw [HE.out], Lib.hid (by rw [HE.out]; exact HVO.out.ext HXA.out), Lib.hid (Only.refl _ _)⟩
 case rest =>
  obtain ⟨a1, c1, rfl, HRO, HXC⟩ := hcut
  have hyc := HH.out.grow (HXA.out.then HXC.out)
  have k0 := (hyc.cell 0).trans (rfl : _ = some (PTR (n + 3)))
  have k2 := (hyc.cell 2).trans (rfl : _ = some (Value.slice al l.length cl))
  have k3 := (hyc.cell 3).trans (rfl : _ = some (PTR (n + 1)))
  have HK0 := Lib.hid k0
  have HK2 := Lib.hid k2
  have HK3 := Lib.hid k3
  have HNW : Hid (∀ wq, Ext wc wq → Calls Tryz.prog 51 #[PTR (n + 3), .slice al l.length cl, .slice a1 os.length c1, PTR (n + 1)] wq (RetNw P l os T n wc)) := Lib.hid (fun wq hq => by
   have hyq := hyc.grow hq
   refine (new_any wq P (n + 3) (n + 2) T _ _ (some ⟨n + 1, 0, none⟩) l os hyq.tree hyq.rules.rd (HRO.out.ext hq) HOSL.out HSM.out ((HV.out.ext hyq.ext).sub (by decide))).mono ?_
   rintro e w' ⟨v, ev, rfl, he, hx, hcase⟩
   exact ⟨wq, v, ev, rfl, hq, hx, he, hcase⟩)
  have HYC := Lib.hid hyc
  clear hyc
  go_wp2_with fail
  go_region_held3 (fun w' => w'.cell? ⟨n + 6, 0, none⟩ = some (PTR (n + 3)) ∧ w'.cell? ⟨n + 6, 2, none⟩ = some (.slice al l.length cl) ∧ w'.cell? ⟨n + 6, 3, none⟩ = some (PTR (n + 1))) (first | exact ⟨HX3.out.cellOf HK0.out (fun h => h), HX3.out.cellOf HK2.out (fun h => h), HX3.out.cellOf HK3.out (fun h => h)⟩ | exact ⟨k0, k2, k3⟩ | go_keep)
   ((go_at_call 51; refine (HNW.out _ (by first | exact Only.refl _ _ | exact Only.drew _ _ | exact Only.drewN _ _ _)).mono ?_; rintro e w3 ⟨w1, vb, ev, rfl, hx1, hx13, hee, hcase⟩; have HX1 := Lib.hid hx1; have HX13 := Lib.hid hx13; have HX3 := Lib.hid (hx1.then hx13); have HEE := Lib.hid hee; have HCASE := Lib.hid hcase; clear hx1 hx13 hee hcase))
  all_goals
   by_cases hf : (newFault l os).1 = 0
   case neg =>
    obtain ⟨t, p, rfl⟩ := HEE.out.some hf
    obtain rfl : vb = .pointer none := HCASE.out.elim (·.2) (fun h => absurd h.1 hf)
    have hg := HX3.out.heapOf (HXC.out.heapOf HGA.out (fun h => h)) (fun h => h)
    have s0 := (cell_of_heap hg 0).trans (rfl : _ = some (IN 0))
    have s1 := (cell_of_heap hg 1).trans (rfl : _ = some (IN 0))
    have s2 := (cell_of_heap hg 2).trans (rfl : _ = some (IN 0))
    have s3 := (cell_of_heap hg 3).trans (rfl : _ = some (IN 0))
    have f0 := free_of_heap hg 0
    have f1 := free_of_heap hg 1
    have f2 := free_of_heap hg 2
    have f3 := free_of_heap hg 3
    obtain ⟨hcf, hof⟩ := four_set (a' := IN 0) (b' := IN 0) (c' := IN 0) (d' := IN 0) hg
    have HF0 := Lib.hid ((cell_of_heap hcf 0).trans (rfl : _ = some (IN 0)))
    have HF1 := Lib.hid ((cell_of_heap hcf 1).trans (rfl : _ = some (IN 0)))
    have HF2 := Lib.hid ((cell_of_heap hcf 2).trans (rfl : _ = some (IN 0)))
    have HF3 := Lib.hid ((cell_of_heap hcf 3).trans (rfl : _ = some (IN 0)))
    have HFE := Lib.hid (errAt_laid HEE.out hg hof)
    have HFX := Lib.hid (((HXA.out.then HXC.out).then HX3.out).trans hof (fun _ _ h => h) (fun i hi e => by have := HGC.out; omega))
    have HN := Lib.hid hf
    clear hg hcf hof hf
    go_wp2_with fail
    exact bodyPost_ret (v := .tuple #[.agg #[IN 0, IN 0, IN 0, IN 0], _]) (make_results _ _ gc _ _ _ _ _ rfl rfl HF0.out HF1.out HF2.out HF3.out) rfl ⟨_, _, rfl, HFE.out, .inl ⟨HN.out, rfl, HFX.out⟩⟩
   case pos =>
    obtain ⟨hrs, hmade, o, hpo⟩ := newFault_ok hf
    obtain ⟨K, rfl, hcp, hb⟩ := HCASE.out.elim (fun h => absurd hf h.1) (·.2)
    obtain rfl := HEE.out.zero hf
    have hsml : (needL l os).length ≤ 1000 := by
     have := List.length_filter_le (reachB l os) (List.range l.length)
     rw [List.length_range] at this
     unfold needL
     omega
    have HWL : Hid (BWell (newE l os T) o (fun i => (needL l os).contains i)) := Lib.hid (new_well hrs hpo HT.out.bytes)
    have HLN : Hid (BLens (newE l os T)) := Lib.hid (BLens.of hrs HSH.out (fun i hi => (mem_needL.1 hi).1) hsml)
    have hreal := HH.out.real ((HXA.out.then HXC.out).then HX1.out) HX13.out hb hcp
    have HALL := Lib.hid (hreal.all HWL.out HLN.out (HV.out.sub (by decide)))
    have HB := Lib.hid hb
    have HN := Lib.hid hf
    have hyw := HH.out.grow ((HXA.out.then HXC.out).then HX3.out)
    have HLO1 : Hid (w.heap.size ≤ w1.heap.size) := Lib.hid ((HXA.out.then HXC.out).then HX1.out).size
    clear hrs hmade hpo hcp hb hreal hsml hf k0 k2 k3
    go_wp2_with fail
    refine HALL.out.mono ?_
    rintro e w5 ⟨sv', y, rfl, hr5, ho5, hn5, hs5, hov5, hto⟩
    obtain ⟨D2, L', hyL, hmk, hd2⟩ := MkAt.start HH.out ((HXA.out.then HXC.out).then HX1.out) HX13.out HB.out hr5 ho5 hn5 (hto.cached ⟨L, rfl⟩) HO.out
    obtain ⟨s, C⟩ := y
    have hyL : C = some (many, L') := hyL
    subst hyL
    have HD2 := Lib.hid hd2
    have HDL := Lib.hid HH.out.lt
    have HTO := Lib.hid hto
    have HI := Lib.hid hr5.inv
    have HOV := Lib.hid hov5
    have hgc5 := ho5.heapOf (HX3.out.heapOf (HXC.out.heapOf HGA.out (fun h => h)) (fun h => h)) (fun e => by
     have := HGC.out
     have hca := HH.out.cache.lt
     rcases e with e | ⟨_, e⟩
     ·have := HB.out.ge gc e
      have := (lt_of_heap HGA.out)
      have := (HXC.out.then HX1.out).size
      omega
     ·have := hca gc e; omega)
    have HG5 := Lib.hid hgc5
    have HLT5 : Hid (w.heap.size ≤ w5.heap.size) := Lib.hid (by have := hmk.moved.1.size; omega)
    have hmk6 := hmk.grow (Only.alloc _ w5 (.cells (cntV s (newE l os T).sm) 70 (0, 0)))
    have HMK6 := Lib.hid hmk6
    have hxc6 := (MapKept.heap_alloc w5 (.cells (cntV s (newE l os T).sm) 70 (0, 0))).1
    have HXC6 := Lib.hid hxc6
    have HG6 := Lib.hid ((Only.alloc (fun _ => False) w5 (.cells (cntV s (newE l os T).sm) 70 (0, 0))).heapOf hgc5 (fun h => h))
    clear hr5 ho5 hn5 hs5 hov5 hto hmk hd2 hgc5 hmk6 hxc6 HALL HH HB HEE HCASE HX1 HX13 HX3 HK0 HK2 HK3 HNW HYC hyw
    obtain ⟨a, b, c, d, hcv⟩ : ∃ a b c d : Nat, cntV s (newE l os T).sm = #[IN a, IN b, IN c, IN d] := ⟨_, _, _, _, rfl⟩
    have HCV := Lib.hid hcv
    rw [hcv] at HMK6 HXC6 HG6 ⊢
    clear hcv
    have HGO := Lib.hid (graphOrder_any _ P l _ HMK6.out.yard.rules.rd HSM.out ((HV.out.ext HMK6.out.yard.ext).sub (by decide)))
    have e2 := (HMK6.out.yard.cell 2).trans (rfl : _ = some (Value.slice al l.length cl))
    obtain ⟨xc, hxc⟩ : ∃ xc, xc = w5.heap.size := ⟨_, rfl⟩
    have HXCE : Hid (w.heap.size ≤ xc) := Lib.hid (by have := HLT5.out; omega)
    have HXCG : Hid (gc ≠ xc) := Lib.hid (by have := lt_of_heap HG5.out; omega)
    go_wp2_with fail
    refine HGO.out.mono ?_
    rintro e w7 ⟨v9, ev, rfl, hr9, he9, ho9⟩
    obtain rfl := he9.zero HOF.out
    have HMK7 := Lib.hid (HMK6.out.grow ho9)
    have hs7 : MkS w0 w P w1.heap.size (newE l os T) K D D2 n sv' (.slice al l.length cl) many T L' l s gc xc (w.heap.size + 1) #[IN a, IN b, IN c, IN d] v9 (orderOut l) O w7 := ⟨HMK7.out, ho9.heapOf HG6.out (fun h => h), by rw [hxc]; exact ho9.heapOf HXC6.out (fun h => h), hr9.down (by have := HLT5.out; simp; omega)⟩
    rw [← hxc]
    obtain ⟨od, hod⟩ : ∃ od, od = orderOut l := ⟨_, rfl⟩
    rw [← hod] at hs7
    have HOD := Lib.hid hod
    have HORD := Lib.hid (orderB_some HOR.out).1
    have hodl : od.length ≤ 40 := by
     have := nodup_len (b := List.range l.length) (hod ▸ HORD.out.nodup) (fun x hx => List.mem_range.2 (HORD.out.lt x (hod ▸ hx)))
     rw [List.length_range] at this
     omega
    have HODL : Hid (∀ i ∈ od, i < l.length) := Lib.hid (fun i hi => HORD.out.lt i (hod ▸ hi))
    have hodz : (od.length : Int) ≤ 40 := by omega
    have HFIN : Hid (∀ w', YardAt w0 w' D2 n sv' (.slice al l.length cl) many T (outY (newE l os T) s O od) L' l → Moved D w w' D2 → RetMk P w0 w D n (.slice al l.length cl) many T O L l os (.returned (.tuple #[.agg #[IN a, IN b, IN c, IN d], .nilIface])) w') := Lib.hid (fun w' h1 h2 => by
     rw [HOD.out] at h1
     exact ⟨_, _, rfl, .inl ⟨HN.out, rfl⟩, .inr ⟨HN.out, D2, sv', s, L', HTO.out, HI.out, HOV.out, HCV.out.symm, h1, h2⟩⟩)
    have HNLT : Hid (n + 4 < gc ∧ n + 4 < xc ∧ n + 4 < w.heap.size + 1) := Lib.hid (by
     have := HLOW.out
     have := HGC.out
     have := HXCE.out
     omega)
    have HS7 := Lib.hid hs7
    obtain ⟨E, hE⟩ : ∃ E, newE l os T = E := ⟨_, rfl⟩
    have HEL : Hid (E.l = l) := Lib.hid (by rw [← hE])
    have HESM : Hid (needL l os = E.sm) := Lib.hid (by rw [← hE])
    rw [hE] at HS7 HFIN HI HWL
    rw [HESM.out] at HOV
    obtain ⟨a9, c9, rfl⟩ : ∃ a9 c9, v9 = .slice a9 od.length c9 := by
     obtain ⟨a9, c9, h9, _⟩ := hs7.r.rd
     exact ⟨a9, c9, h9⟩
    clear hr9 he9 ho9 hs7 hod hE HGO HMK6 HMK7 HXC6 HG6 HTO HCV HN HOD HG5 hxc e2
    go_wp2_with fail
    go_loopw [11, 12, 13, 56] (fun _ _ _ i wx => ∃ j : Nat, j ≤ od.length ∧ i = .int .i64 j ∧ Hid (MkS w0 w P w1.heap.size E K D D2 n sv' (.slice al l.length cl) many T L' l s gc xc (w.heap.size + 1) #[IN a, IN b, IN c, IN d] (.slice a9 od.length c9) od (outY E s O (od.take j)) wx)) (fun _ _ _ i _ => od.length - (intOf i).toNat)
    case atStart => exact ⟨0, Nat.zero_le _, rfl, HS7⟩
    case round =>
     clear HS7
     obtain ⟨j, hj, rfl, HM⟩ := hrel
     by_cases hlt : j < od.length
     case pos =>
      have hltz : (j : Int) < (od.length : Int) := by omega
      have hj0 : (0 : Int) ≤ (j : Int) := by omega
      obtain ⟨_, _, ee, _, _, hc0⟩ := HM.out.r.rd
      cases ee
      obtain ⟨b9, off9, rfl, hc⟩ := hc0 (by intro h; rw [h] at hlt; simp at hlt)
      obtain ⟨i, hi⟩ : ∃ y, od[j]? = some y := ⟨_, List.getElem?_eq_getElem hlt⟩
      have d0 := hc j i hi
      have hil := HODL.out i (List.mem_of_getElem? hi)
      have hilz : (i : Int) < (l.length : Int) := by omega
      have hi0 : (0 : Int) ≤ (i : Int) := by omega
      obtain ⟨_, _, ee, _, _, hcr0⟩ := HM.out.at_.yard.rules.rd
      cases ee
      obtain ⟨br, offr, rfl, hcr⟩ := hcr0 (by intro h; rw [h] at hil; simp at hil)
      have hri : l[i]? = some (E.rule i) := by have := BE.rule_at (E := E) (i := i) (by rw [HEL.out]; exact hil); rwa [HEL.out] at this
      obtain ⟨u, hu, c0, _, _, _⟩ := hcr i _ hri
      have HRO : Hid ((E.rule i).out.length ≤ 1000) := Lib.hid (by have := (HSH.out _ (List.mem_of_getElem? hri)).out; omega)
      have hst := state_any HM.out.at_.bld HI.out (i : Int)
      rw [state_M] at hst
      have HLAY := Lib.hid (outY_step (E := E) (s := s) (O := O) hi)
      have hm4 := mst_le HI.out i
      have hm1 : mst E s i ≠ 1 := fun e => by
       obtain ⟨h1, h2⟩ := mst_one e
       exact HOV.out i h1 h2
      have HJ := Lib.hid hlt
      obtain ⟨U, hU⟩ : ∃ U, U = outY E s O (od.take j) := ⟨_, rfl⟩
      rw [← hU] at HM HLAY
      have HUU := Lib.hid hU
      have e1 := (HM.out.at_.yard.cell 1).trans (rfl : _ = some (PTR (n + 5)))
      have e2 := (HM.out.at_.yard.cell 2).trans (rfl : _ = some (Value.slice (some ⟨br, offr, none⟩) l.length cl))
      have HRE : Hid (∀ wq, Ext wr wq → wq.cell? ⟨br, offr + i * 4, none⟩ = some (S (E.rule i).out)) := Lib.hid (fun wq hq => hq.cellOf c0 (fun h => h))
      clear hc hc0 hi hcr hcr0 hri hu hj hlt hU
      rcases (show mst E s i = 0 ∨ mst E s i = 2 ∨ mst E s i = 3 ∨ mst E s i = 4 by omega) with hm | hm | hm | hm
      case inl =>
       rw [if_pos hm] at hst
       have HLE : Hid (outY E s O (od.take (j + 1)) = U) := Lib.hid (by rw [HLAY.out]; unfold layY; rw [hm, if_neg (by decide), if_neg (by decide)])
       have HST := Lib.hid hst
       clear hst hm hm4 hm1 HLAY
       go_wp2_with fail
       refine HST.out.mono ?_
       rintro e w10 ⟨rfl, ho10⟩
       have HM10 := Lib.hid (HM.out.grow ho10)
       clear ho10 d0 c0 e1 e2
       go_wp2_with fail
       go_roundw
       case rel => exact ⟨j + 1, HJ.out, by go_num, by rw [HLE.out]; exact HM10⟩
       case measure => have := HJ.out; simp [intOf]; omega
      case inr.inl =>
       rw [if_neg (by rw [hm]; decide), hm] at hst
       have hin : i ∈ E.sm ∧ s.st i = 2 := by
        by_cases hi : i ∈ E.sm
        ·exact ⟨hi, by rw [← mst_in hi]; exact hm⟩
        ·rw [mst_out hi] at hm; cases hm
       have HLE : Hid (outY E s O (od.take (j + 1)) = putT U (E.rule i).out (E.ans i).1) := Lib.hid (by rw [HLAY.out]; unfold layY; rw [hm, if_pos rfl])
       have HST : Hid (Calls Tryz.prog 69 #[PTR K.b, I i] wr (RetE (S [100, 111, 110, 101]) wr)) := Lib.hid hst
       have HRES := Lib.hid (fun W (h : BldAt W P w1.heap.size E K s) => by have := result_any h (i : Int); rw [resZ_in hin.1 hin.2] at this; exact this)
       have HPUT := Lib.hid (fun wq (hq : Ext wr wq) => (HM.out.grow hq).put HNLT.out (HV.out.errs.sub (by decide)) HV.out.max (E.rule i).out (E.ans i).1 HRO.out)
       clear hst hm hm4 hm1 HLAY hin
       go_wp2_with fail
       refine HST.out.mono ?_
       rintro e w10 ⟨rfl, ho10⟩
       have HM10 := Lib.hid (HM.out.grow ho10)
       have HX10 := Lib.hid ho10
       clear d0 c0 e1 e2
       go_wp2_with fail
       refine (HRES.out _ HM10.out.at_.bld).mono ?_
       rintro e w11 ⟨rfl, rfl⟩
       have e1 := (HM10.out.at_.yard.cell 1).trans (rfl : _ = some (PTR (n + 5)))
       have e2 := (HM10.out.at_.yard.cell 2).trans (rfl : _ = some (Value.slice (some ⟨br, offr, none⟩) l.length cl))
       have c0 := HRE.out _ ho10
       clear ho10
       go_wp2_with fail
       go_region_held3 (fun w' => w'.cell? ⟨n + 6, 1, none⟩ = some (PTR (n + 5)) ∧ w'.cell? ⟨n + 6, 2, none⟩ = some (.slice (some ⟨br, offr, none⟩) l.length cl) ∧ w'.cell? ⟨br, offr + i * 4, none⟩ = some (S (E.rule i).out)) (first | exact ⟨e1, e2, c0⟩ | exact ⟨(HM12.out.at_.yard.cell 1).trans rfl, (HM12.out.at_.yard.cell 2).trans rfl, HC12.out⟩ | go_keep)
        ((go_at_call 38; refine (HPUT.out _ (by first | exact HX10.out | exact HX10.out.thenDrew | exact HX10.out.thenDrewN _)).mono ?_; rintro e w12 ⟨ev, rfl, hm12⟩; have HM12 := Lib.hid hm12; have HC12 : Hid (w12.cell? ⟨br, offr + i * 4, none⟩ = some (S (E.rule i).out)) := Lib.hid (by
         obtain ⟨_, _, ee, _, _, hcr0⟩ := hm12.at_.yard.rules.rd
         cases ee
         obtain ⟨br', offr', ee, hcr⟩ := hcr0 (by intro h; rw [h] at hilz; simp at hilz; omega)
         cases ee
         have hri : l[i]? = some (E.rule i) := by have := BE.rule_at (E := E) (i := i) (by rw [HEL.out]; omega); rwa [HEL.out] at this
         obtain ⟨_, _, c0, _⟩ := hcr i _ hri
         exact c0); clear hm12))
       all_goals
        go_wp2_with fail
        go_roundw
        case rel => exact ⟨j + 1, HJ.out, by go_num, by rw [HLE.out]; exact HM12⟩
        case measure => have := HJ.out; simp [intOf]; omega
      all_goals
       rw [if_neg (by rw [hm]; decide), hm] at hst
       have HLE : Hid (outY E s O (od.take (j + 1)) = delT U (E.rule i).out) := Lib.hid (by rw [HLAY.out]; unfold layY; rw [hm, if_neg (by decide), if_pos (by decide)])
       first
        | rw [show stateB 3 = [102, 97, 105, 108, 101, 100] from rfl] at hst
        | rw [show stateB 4 = [108, 101, 102, 116] from rfl] at hst
       have HST := Lib.hid hst
       have HRM := Lib.hid (fun wq (hq : Ext wr wq) => (HM.out.grow hq).remove HNLT.out (HV.out.errs.sub (by decide)) (E.rule i).out)
       clear hst hm hm4 hm1 HLAY
       go_wp2_with fail
       refine HST.out.mono ?_
       rintro e w10 ⟨rfl, ho10⟩
       have HM10 := Lib.hid (HM.out.grow ho10)
       have HX10 := Lib.hid ho10
       clear d0 c0 e1 e2
       have e1 := (HM10.out.at_.yard.cell 1).trans (rfl : _ = some (PTR (n + 5)))
       have e2 := (HM10.out.at_.yard.cell 2).trans (rfl : _ = some (Value.slice (some ⟨br, offr, none⟩) l.length cl))
       have c0 := HRE.out _ ho10
       clear ho10
       go_wp2_with fail
       go_region_held3 (fun w' => w'.cell? ⟨n + 6, 1, none⟩ = some (PTR (n + 5)) ∧ w'.cell? ⟨n + 6, 2, none⟩ = some (.slice (some ⟨br, offr, none⟩) l.length cl) ∧ w'.cell? ⟨br, offr + i * 4, none⟩ = some (S (E.rule i).out)) (first | exact ⟨e1, e2, c0⟩ | exact ⟨(HM12.out.at_.yard.cell 1).trans rfl, (HM12.out.at_.yard.cell 2).trans rfl, HC12.out⟩ | go_keep)
        ((go_at_call 37; refine (HRM.out _ (by first | exact HX10.out | exact HX10.out.thenDrew | exact HX10.out.thenDrewN _)).mono ?_; rintro e w12 ⟨ev, rfl, hm12⟩; have HM12 := Lib.hid hm12; have HC12 : Hid (w12.cell? ⟨br, offr + i * 4, none⟩ = some (S (E.rule i).out)) := Lib.hid (by
         obtain ⟨_, _, ee, _, _, hcr0⟩ := hm12.at_.yard.rules.rd
         cases ee
         obtain ⟨br', offr', ee, hcr⟩ := hcr0 (by intro h; rw [h] at hilz; simp at hilz; omega)
         cases ee
         have hri : l[i]? = some (E.rule i) := by have := BE.rule_at (E := E) (i := i) (by rw [HEL.out]; omega); rwa [HEL.out] at this
         obtain ⟨_, _, c0, _⟩ := hcr i _ hri
         exact c0); clear hm12))
       all_goals
        go_wp2_with fail
        go_roundw
        case rel => exact ⟨j + 1, HJ.out, by go_num, by rw [HLE.out]; exact HM12⟩
        case measure => have := HJ.out; simp [intOf]; omega
     case neg =>
      have hltz : ¬ (j : Int) < (od.length : Int) := by omega
      rw [List.take_of_length_le (by omega)] at HM
      have hg := HM.out.g
      have hx := HM.out.x
      have x0 := (cell_of_heap hx 0).trans (rfl : _ = some (IN a))
      have x1 := (cell_of_heap hx 1).trans (rfl : _ = some (IN b))
      have x2 := (cell_of_heap hx 2).trans (rfl : _ = some (IN c))
      have x3 := (cell_of_heap hx 3).trans (rfl : _ = some (IN d))
      have s0 := (cell_of_heap hg 0).trans (rfl : _ = some (IN 0))
      have s1 := (cell_of_heap hg 1).trans (rfl : _ = some (IN 0))
      have s2 := (cell_of_heap hg 2).trans (rfl : _ = some (IN 0))
      have s3 := (cell_of_heap hg 3).trans (rfl : _ = some (IN 0))
      have f0 := free_of_heap hg 0
      have f1 := free_of_heap hg 1
      have f2 := free_of_heap hg 2
      have f3 := free_of_heap hg 3
      obtain ⟨hcf, hof⟩ := four_set (a' := IN a) (b' := IN b) (c' := IN c) (d' := IN d) hg
      have HF0 := Lib.hid ((cell_of_heap hcf 0).trans (rfl : _ = some (IN a)))
      have HF1 := Lib.hid ((cell_of_heap hcf 1).trans (rfl : _ = some (IN b)))
      have HF2 := Lib.hid ((cell_of_heap hcf 2).trans (rfl : _ = some (IN c)))
      have HF3 := Lib.hid ((cell_of_heap hcf 3).trans (rfl : _ = some (IN d)))
      have hng : ∀ i, i = gc → w.heap.size ≤ i := fun i e => by have := HGC.out; omega
      have HEND := Lib.hid (HFIN.out _ (HM.out.at_.yard.other hof (fun i e => ⟨by have := hng i e; have := HLOW.out; omega, fun e2 => by
       rcases HD2.out i e2 with k | k
       ·have := HDL.out i k; have := hng i e; omega
       ·exact row_ne HM.out.at_.yard.cache.row HM.out.g (by decide) i k e⟩)) ⟨HM.out.at_.moved.1.trans hof (fun _ _ h => h) (fun i hi e => by have := hng i e; omega), HM.out.at_.moved.2⟩)
      clear hg hx hcf hof hng hj hlt
      go_wp2_with fail
      exact bodyPost_ret (v := .tuple #[.agg #[IN a, IN b, IN c, IN d], .nilIface]) (make_results _ _ gc _ _ _ _ _ rfl rfl HF0.out HF1.out HF2.out HF3.out) rfl HEND.out
end
end Go.Proofs.YtnmhaipjfpongacGreatDoor
