/- Texts of this seat laid together for one claim: Pl7, Pl8, Pl9. No condition of its own: what each proves stands with its theorems. -/
import Derived.Test.YtnmhaipjfpongacGreatDoorPA7
import Derived.Test.YtnmhaipjfpongacGreatDoorPA25
import Derived.Test.YtnmhaipjfpongacGreatDoorPA48
import Derived.Test.YtnmhaipjfpongacGreatDoorPA43
namespace Go.Proofs.YtnmhaipjfpongacGreatDoor
open Go.ChangeShapes Go.WideShapes Go.ChangeAt Go.RowKit

def sheetB (l : List Rule) : B := l.flatMap fun r => lineB r ++ [10]
theorem cut_sheet : ∀ {l : List Rule}, (∀ r ∈ l, (10 : UInt8) ∉ lineB r) → cutc 10 (sheetB l) = l.map lineB ++ [[]]
 | [], _ => rfl
 | r :: l, h => by
  have ih := cut_sheet (l := l) fun q hq => h q (.tail _ hq)
  have e : sheetB (r :: l) = lineB r ++ 10 :: sheetB l := by unfold sheetB; rw [List.flatMap_cons, List.append_assoc]; rfl
  rw [e, cutc_app 10 _ _ (h r (.head _)), ih]
  rfl
theorem sheetOf_results (tmps : Array Value) (W : World) (h : Nat) (v a b : Value) (h2 : tmps[2]? = some v) (h3 : tmps[3]? = some (.pointer (some ⟨h, 0, none⟩))) (d0 : W.cell? ⟨h, 0, none⟩ = some a) (d1 : W.cell? ⟨h, 1, none⟩ = some b) :
  (results Tryz.f155 tmps).run Tryz.prog W = .ok (.tuple #[v, .agg #[a, b]]) W := by
 simp only [results, Tryz.results155]
 simp [go_sem, h2, h3, d0, d1]
theorem two_set {W : World} {h : Nat} {a b a' b' : Value} {t : TypeId} (hc : W.heap[h]? = some (.cells #[a, b] t (0, 0))) :
  ((W.setCell ⟨h, 0, none⟩ a').setCell ⟨h, 1, none⟩ b').heap[h]? = some (.cells #[a', b'] t (0, 0)) ∧ Only (fun i => i = h) W ((W.setCell ⟨h, 0, none⟩ a').setCell ⟨h, 1, none⟩ b') :=
 ⟨heap_setCell_same (heap_setCell_same hc 0 a') 1 b', (Only.set (p := fun i => i = h) a' rfl).then (Only.set (p := fun i => i = h) b' rfl)⟩
theorem RdR.off {b : Nat} {cs : Array Value} {t : TypeId} {w w' : World} {v : Value} {l : List Rule} (h : RdR w v l) (hc : w.heap[b]? = some (.cells cs t (0, 0))) (hs : ∀ (j : Nat) x, cs[j]? ≠ some (S x)) (ho : Only (fun i => i = b) w w') : RdR w' v l := by
 obtain ⟨a, cap, h1, h2, h3, h4⟩ := h
 refine ⟨a, cap, h1, h2, h3, fun hne => ?_⟩
 obtain ⟨b', off, h5, h6⟩ := h4 hne
 refine ⟨b', off, h5, fun i r hi => ?_⟩
 obtain ⟨u, hu, c0, c1, c2, c3⟩ := h6 i r hi
 have hb : b' ≠ b := fun e => by
  subst e
  have := cell_of_heap hc (off + i * 4)
  rw [c0] at this
  exact hs _ _ this.symm
 exact ⟨u, hu.off hc hs ho, ho.cellOf c0 hb, ho.cellOf c1 hb, ho.cellOf c2 hb, ho.cellOf c3 hb⟩
theorem ints_noS (a b : Int) : ∀ (j : Nat) x, (#[.int .i64 a, .int .i64 b] : Array Value)[j]? ≠ some (S x) := fun j x h => by
 rcases (show j = 0 ∨ j = 1 ∨ 2 ≤ j by omega) with rfl | rfl | h2
 ·cases h
 ·cases h
 ·rw [Array.getElem?_eq_none (by simpa using h2)] at h; cases h
def RetShO (l : List Rule) (w : World) (e : Ending) (w' : World) : Prop := ∃ v, e = .returned (.tuple #[v, .agg #[IN 0, I (-1)]]) ∧ RdR w' v l ∧ Ext w w'
set_option maxRecDepth 100000 in
set_option maxHeartbeats 8000000 in
theorem sheetOf_any (w : World) (l : List Rule) (hl : ∀ r ∈ l, LineOk r ∧ (10 : UInt8) ∉ lineB r) (hr : RightS l) (ht : (sheetB l).length ≤ 10000) : Calls Tryz.prog 155 #[S (sheetB l)] w (RetShO l w) := by
 have HL := Lib.hid hl
 have HR := Lib.hid hr
 have h40 := hr.1
 have htz : ((sheetB l).length : Int) ≤ 10000 := by omega
 have hcs := cut_sheet fun r hr => (hl r hr).2
 have hcut := fun W => refCutC_any W 10 10 rfl (sheetB l) (by omega)
 rw [hcs] at hcut
 obtain ⟨L, hL⟩ : ∃ L, L = l.map lineB ++ [[]] := ⟨_, rfl⟩
 rw [← hL] at hcut
 have HLL := Lib.hid hL
 have hLl : L.length = l.length + 1 := by rw [hL, List.length_append, List.length_map]; rfl
 rw [hLl] at hcut
 have HCUT := Lib.hid hcut
 have HSM : Hid (∀ r ∈ l, RuleSm 900000 r) := Lib.hid (fun r h => (right_short hr r h).sm)
 generalize sheetB l = sh at htz HCUT
 clear hl hr hcs hcut hL ht
 go_enter Tryz.func155, Tryz.ntmps155
 go_wp2_with fail
 refine (HCUT.out _).mono ?_
 rintro e w1 ⟨g1, cap1, rfl, hrow, ho1⟩
 have hA0 := Only.alloc (fun _ => False) w (.cells #[.int .i64 0, .int .i64 0] 37 (0, 0))
 have HG1 := Lib.hid (ho1.heapOf (MapKept.heap_alloc w (.cells #[.int .i64 0, .int .i64 0] 37 (0, 0))).1 (fun h => h))
 have HX1 := Lib.hid (hA0.then ho1)
 have HR1 : Hid (Rd S w1 (.slice (some ⟨g1, 0, none⟩) (l.length + 1) cap1) L) := Lib.hid (Rd.of_row hrow)
 clear hA0 hrow ho1
 obtain ⟨gb, hgb⟩ : ∃ gb, gb = w.heap.size := ⟨_, rfl⟩
 rw [← hgb] at HG1 ⊢
 have HGB := Lib.hid hgb
 have HB1 : Hid (gb < w1.heap.size) := Lib.hid (lt_of_heap HG1.out)
 clear hgb
 go_wp2_with fail
 go_loopw [5, 6, 7, 8] (fun q i _ _ wr => ∃ (j : Nat) (qv : Value) (ps : List (Rule × Option Addr × Nat × Nat)), qv = q ∧ j ≤ l.length ∧ i = .int .i64 j ∧ Hid (ps.map Prod.fst = l.take j) ∧ Hid (OwnR w1 wr qv ps)) (fun _ i _ _ _ => l.length - (intOf i).toNat)
 case atStart => exact ⟨0, _, [], rfl, Nat.zero_le _, rfl, Lib.hid rfl, Lib.hid ⟨Only.refl _ _, World.ownsRow_nil _ _ _ _, fun p hp => by cases hp⟩⟩
 case round =>
  obtain ⟨j, qv, ps, rfl, hj, rfl, HPS, HO⟩ := hrel
  have hjz : (j : Int) < (l.length : Int) + 1 := by omega
  have hj0 : (0 : Int) ≤ (j : Int) := by omega
  obtain ⟨_, _, ee, _, _, hc0⟩ := HR1.out.ext HO.out.ext
  have hc0 := hc0 (by intro h; rw [h] at hLl; simp at hLl)
  rw [hLl] at ee
  cases ee
  obtain ⟨b, off, ee, hc⟩ := hc0
  cases ee
  by_cases hlt : j < l.length
  case pos =>
   obtain ⟨r, hr⟩ : ∃ r, l[j]? = some r := ⟨_, List.getElem?_eq_getElem hlt⟩
   have hLj : L[j]? = some (lineB r) := by rw [HLL.out, List.getElem?_append_left (by rw [List.length_map]; exact hlt), List.getElem?_map, hr]; rfl
   have d0 := hc j _ hLj
   rw [Nat.zero_add] at d0
   have hne : ((j : Int) == (l.length : Int)) = false := beq_eq_false_iff_ne.2 (by omega)
   have hne2 : ¬ (j : Int) = (l.length : Int) := by omega
   have HRO := Lib.hid (ruleOf_any wr r (HL.out r (List.mem_of_getElem? hr)).1)
   have HPL : Hid (ps.length ≤ 1000000) := Lib.hid (by
    have := congrArg List.length HPS.out
    rw [List.length_map, List.length_take] at this
    omega)
   have HPS2 : Hid (∀ u, (ps ++ [(r, u)]).map Prod.fst = l.take (j + 1)) := Lib.hid (fun u => by rw [List.map_append, HPS.out, List.take_add_one, hr]; rfl)
   have HJ := Lib.hid hlt
   generalize lineB r = ln at d0 HRO
   clear hr hLj hc hlt hj
   go_wp2_with fail
   refine HRO.out.mono ?_
   rintro e w3 ⟨v3, rfl, hr3, ho3⟩
   obtain ⟨au, cu, rfl⟩ := form4 hr3
   have hAL := Only.alloc (fun _ => False) w3 (.cells #[S r.out, S r.kind, S r.word, .slice au r.ins.length cu] 55 (0, 0))
   have HX3 := Lib.hid (ho3.then hAL)
   have HR3 : Hid (Row wr.heap.size (w3.alloc (.cells #[S r.out, S r.kind, S r.word, .slice au r.ins.length cu] 55 (0, 0))) (.slice au r.ins.length cu) r.ins) := Lib.hid (hAL.row hr3 (fun _ _ h => h))
   have hm := (MapKept.heap_alloc w3 (.cells #[S r.out, S r.kind, S r.word, .slice au r.ins.length cu] 55 (0, 0))).1
   have k0 := (cell_of_heap hm 0).trans (rfl : _ = some (S r.out))
   have k1 := (cell_of_heap hm 1).trans (rfl : _ = some (S r.kind))
   have k2 := (cell_of_heap hm 2).trans (rfl : _ = some (S r.word))
   have k3 := (cell_of_heap hm 3).trans (rfl : _ = some (Value.slice au r.ins.length cu))
   have HO3 := Lib.hid (HO.out.grow HX3.out)
   have HBZ : Hid (w1.heap.size ≤ (w3.alloc (.cells #[S r.out, S r.kind, S r.word, .slice au r.ins.length cu] 55 (0, 0))).heap.size) := Lib.hid HO3.out.ext.size
   have HSZ : Hid ((w3.alloc (.cells #[S r.out, S r.kind, S r.word, .slice au r.ins.length cu] 55 (0, 0))).heap.size = w3.heap.size + 1) := Lib.hid (by simp)
   clear hAL hr3 ho3 hm d0
   go_wp2_with (at_builtin; refine wpList_appS encR 23 55 4 72 _ infoRule Tryz.underlying23 rfl (by decide) encR_len encR_one (by decide) (.tmp 46) (.tmp 48) w1.heap.size _ ps (r, au, r.ins.length, cu) (w3.alloc (.cells #[S r.out, S r.kind, S r.word, .slice au r.ins.length cu] 55 (0, 0))) #[S r.out, S r.kind, S r.word, .slice au r.ins.length cu] rfl rfl rfl rfl (by show Value.slice (some ⟨w3.heap.size + 1, 0, none⟩) 1 1 = _; rw [HSZ.out]) HO3.out.row HPL.out HBZ.out ?_; intro g5 cap5 w7 ho5 hg5 hn5; have HP5 := Lib.hid (HO.out.push HX3.out HR3.out ho5 hg5 hn5); clear ho5 hg5 hn5)
   go_roundw
   case rel => exact ⟨j + 1, _, _, rfl, HJ.out, by go_num, Lib.hid (HPS2.out _), HP5⟩
   case measure => have := HJ.out; simp [intOf]; omega
  case neg =>
   obtain rfl : j = l.length := by omega
   have hLj : L[l.length]? = some [] := by rw [HLL.out]; simp
   have d0 := hc _ _ hLj
   rw [Nat.zero_add] at d0
   have hrd := HO.out.rd (l := l) (by rw [HPS.out, List.take_length])
   have hgw := HO.out.ext.heapOf HG1.out (fun h => h)
   have HSF := Lib.hid (refSheet_any wr l qv hrd HSM.out)
   rw [sheet_zero (sheet_ok.2 HR.out)] at HSF
   have HSF : Hid (Calls Tryz.prog 25 #[qv] wr (RetE (.agg #[.int .i64 0, .int .i64 (-1)]) wr)) := HSF
   obtain ⟨aq, cq, hqf, _⟩ := id hrd
   subst hqf
   have HRD := Lib.hid hrd
   have HGW := Lib.hid hgw
   clear hrd hgw hc hlt hj hLj
   go_wp2_with fail
   refine HSF.out.mono ?_
   rintro e w5 ⟨rfl, ho5⟩
   have hA5 := Only.alloc (fun _ => False) w5 (.cells #[Value.int .i64 0, Value.int .i64 (-1)] 37 (0, 0))
   have hx5 := ho5.then hA5
   have hm := (MapKept.heap_alloc w5 (.cells #[Value.int .i64 0, Value.int .i64 (-1)] 37 (0, 0))).1
   have k0 := (cell_of_heap hm 0).trans (rfl : _ = some (Value.int .i64 0))
   have k1 := (cell_of_heap hm 1).trans (rfl : _ = some (Value.int .i64 (-1)))
   have hg5 := hx5.heapOf HGW.out (fun h => h)
   have s0 := (cell_of_heap hg5 0).trans (rfl : _ = some (Value.int .i64 0))
   have s1 := (cell_of_heap hg5 1).trans (rfl : _ = some (Value.int .i64 0))
   have f0 := free_of_heap hg5 0
   have f1 := free_of_heap hg5 1
   obtain ⟨hcf, hof⟩ := two_set (a' := Value.int .i64 0) (b' := Value.int .i64 (-1)) hg5
   have HF0 := Lib.hid ((cell_of_heap hcf 0).trans (rfl : _ = some (Value.int .i64 0)))
   have HF1 := Lib.hid ((cell_of_heap hcf 1).trans (rfl : _ = some (Value.int .i64 (-1))))
   have HFR := Lib.hid ((HRD.out.ext hx5).off hg5 (ints_noS 0 0) hof)
   have HFX := Lib.hid (((HX1.out.then HO.out.ext).then hx5).trans hof (fun _ _ h => h) (fun i hi e => by have := HGB.out; omega))
   clear hm hcf hof hg5 hx5 hA5
   go_wp2_with fail
   go_region_law (fail)
   all_goals
    go_wp2_with fail
    exact bodyPost_ret (v := .tuple #[.slice aq l.length cq, .agg #[.int .i64 0, .int .i64 (-1)]]) (sheetOf_results _ _ gb _ _ _ rfl rfl HF0.out HF1.out) rfl ⟨_, rfl, HFR.out.ext (Only.drew _ _), HFX.out.thenDrew⟩
theorem play_line : ∀ r ∈ playL, LineOk r ∧ (10 : UInt8) ∉ lineB r := by
 intro r hr
 have key : ∀ r ∈ playL, (r.out.all (· != 32) && r.kind.all (· != 32) && (r.word.all fun c => c != 34 && c != 92) && r.ins != [] && (r.ins.all fun s => s != [] && !s.contains 32) && decide (r.out.length ≤ 200) && decide (r.kind.length ≤ 200) && decide (r.word.length ≤ 200) && decide ((joinc 32 r.ins).length ≤ 5000) && (((joinc 32 r.ins)[0]?).all (· != 34)) && !(lineB r).contains 10) = true := by decide +kernel
 have h := key r hr
 simp only [Bool.and_eq_true, List.all_eq_true, decide_eq_true_eq, bne_iff_ne, Bool.not_eq_true'] at h
 obtain ⟨⟨⟨⟨⟨⟨⟨⟨⟨⟨h1, h2⟩, h3⟩, h4⟩, h5⟩, h6⟩, h7⟩, h8⟩, h9⟩, h10⟩, h11⟩ := h
 refine ⟨⟨h1, h2, h3, h4, fun s hs => ?_, h6, h7, h8, h9, fun c hc => ?_⟩, ?_⟩
 ·have := h5 s hs
  simpa using this
 ·rw [hc] at h10
  simpa using h10
 ·simpa using h11
theorem play_text : (sheetB playL).length ≤ 10000 := by decide +kernel
set_option maxRecDepth 100000 in
set_option maxHeartbeats 4000000 in
theorem playSheetM_any (w : World) : Calls Tryz.prog 142 #[] w (RetSheet w) := by
 have HSO := Lib.hid (sheetOf_any w playL play_line (orderFault_ok play_of).1 play_text)
 go_enter Tryz.func142, Tryz.ntmps142
 go_wp2_with fail
 refine HSO.out.mono ?_
 rintro e w1 ⟨v, rfl, hr, ho⟩
 have HR := Lib.hid (hr.ext (Only.alloc _ w1 (.cells #[.int .i64 0, .int .i64 (-1)] 37 (0, 0))))
 have HX := Lib.hid (ho.thenAlloc (.cells #[.int .i64 0, .int .i64 (-1)] 37 (0, 0)))
 obtain ⟨av, cv, rfl, _⟩ := hr
 clear ho
 go_wp2_with fail
 go_ret
 exact ⟨_, rfl, HR.out, HX.out⟩
end Go.Proofs.YtnmhaipjfpongacGreatDoor

namespace Go.Proofs.YtnmhaipjfpongacGreatDoor
open Go.ChangeShapes Go.WideShapes Go.ChangeAt Go.RowKit

set_option maxRecDepth 100000 in
set_option maxHeartbeats 16000000 in
theorem sameRules_any (w : World) (l : List Rule) (v1 v2 : Value) (h1 : RdR w v1 l) (h2 : RdR w v2 l) (hl : l.length ≤ 1000) : Calls Tryz.prog 140 #[v1, v2] w (RetE (.bool true) w) := by
 obtain ⟨a1, p1, rfl, _, _, hc1⟩ := h1
 obtain ⟨a2, p2, rfl, _, _, hc2⟩ := h2
 have HC1 := Lib.hid hc1
 have HC2 := Lib.hid hc2
 have hlz : (l.length : Int) ≤ 1000 := by omega
 clear hc1 hc2
 go_enter Tryz.func140, Tryz.ntmps140
 go_wp2_with fail
 go_loopw [5] (fun i wr => ∃ j : Nat, j ≤ l.length ∧ i = .int .i64 j ∧ Hid (Ext w wr)) (fun i _ => l.length - (intOf i).toNat)
 case atStart => exact ⟨0, Nat.zero_le _, rfl, Lib.hid (Only.refl _ _)⟩
 case round =>
  obtain ⟨j, hj, rfl, HX⟩ := hrel
  by_cases hlt : j < l.length
  case pos =>
   have hltz : (j : Int) < (l.length : Int) := by omega
   have hj0 : (0 : Int) ≤ (j : Int) := by omega
   obtain ⟨b1, off1, rfl, hcell1⟩ := HC1.out (by intro h; rw [h] at hlt; simp at hlt)
   obtain ⟨b2, off2, rfl, hcell2⟩ := HC2.out (by intro h; rw [h] at hlt; simp at hlt)
   obtain ⟨r, hr⟩ : ∃ r, l[j]? = some r := ⟨_, List.getElem?_eq_getElem hlt⟩
   obtain ⟨u1, hu1, c0, c1, c2, c3⟩ := hcell1 j r hr
   obtain ⟨u2, hu2, d0, d1, d2, d3⟩ := hcell2 j r hr
   have c0 := HX.out.cellOf c0 (fun h => h)
   have c1 := HX.out.cellOf c1 (fun h => h)
   have c2 := HX.out.cellOf c2 (fun h => h)
   have c3 := HX.out.cellOf c3 (fun h => h)
   have d0 := HX.out.cellOf d0 (fun h => h)
   have d1 := HX.out.cellOf d1 (fun h => h)
   have d2 := HX.out.cellOf d2 (fun h => h)
   have d3 := HX.out.cellOf d3 (fun h => h)
   have hst := fun k => sameTexts_any (wr.drewN k) u1 u2 r.ins r.ins ((hu1.ext HX.out).ext (Only.drewN _ _ k)) ((hu2.ext HX.out).ext (Only.drewN _ _ k))
   simp only [beq_self_eq_true] at hst
   have HST := Lib.hid hst
   have HJ := Lib.hid hlt
   obtain ⟨x1, y1, rfl, _⟩ := hu1
   obtain ⟨x2, y2, rfl, _⟩ := hu2
   clear hcell1 hcell2 hr hst hj hlt
   go_wp2_with fail
   go_quiet ((go_at_call 74; exact Calls.quiet_of (HST.out _)))
   go_wp2_with fail
   go_roundw
   case rel => exact ⟨j + 1, HJ.out, by go_num, Lib.hid (HX.out.thenDrewN _)⟩
   case measure => have := HJ.out; simp [intOf]; omega
  case neg =>
   have hltz : ¬ (j : Int) < (l.length : Int) := by omega
   go_wp2_with fail
   go_ret
   exact ⟨rfl, HX.out⟩
end Go.Proofs.YtnmhaipjfpongacGreatDoor

namespace Go.Proofs.YtnmhaipjfpongacGreatDoor
open Go.ChangeShapes Go.WideShapes Go.ChangeAt Go.RowKit

theorem rd_litI {w : World} {b : Nat} {cs : Array Value} {zs : List Int} (h : w.heap[b]? = some (.cells cs 3 (0, 0))) (hc : cs.toList = zs.map I) (hl : zs.length ≤ 1000) : Rd I w (.slice (some ⟨b, 0, none⟩) zs.length zs.length) zs := by
 refine ⟨_, zs.length, rfl, Nat.le_refl _, by unfold maxLen; omega, fun _ => ⟨b, 0, rfl, fun i x hx => ?_⟩⟩
 rw [Nat.zero_add, cell_of_heap h i, ← Array.getElem?_toList, hc, List.getElem?_map, hx]
 rfl
theorem played_codes : (playP ⟨[], [], []⟩ [0, -1, 5]).2 = [0, -1, 0] := by
 have h0 : (numP ⟨[], [], []⟩ 0).2 = 0 := by
  show (((oneP ⟨[], [], []⟩ 0).2 : Nat) : Int) = 0
  have : (oneP ⟨[], [], []⟩ 0).2 = putCode [] (fileB0 0) (lettersB 0) := rfl
  rw [this, show putCode [] (fileB0 0) (lettersB 0) = 0 by decide +kernel]
  rfl
 have h5 : ∀ x, (numP x 5).2 = 0 := fun x => by
  show (((oneP x 5).2 : Nat) : Int) = 0
  have ha : asksP 5 = some [] := rfl
  have : (oneP x 5).2 = (newFault playL (outsY playL [])).1 := rfl
  rw [this, asks_fault ha]
  rfl
 show [(numP ⟨[], [], []⟩ 0).2, (numP (numP ⟨[], [], []⟩ 0).1 (-1)).2, (numP _ 5).2] = _
 rw [h0, h5]
 rfl
set_option maxRecDepth 100000 in
set_option maxHeartbeats 8000000 in
theorem played_any (w : World) (P : Nat → Addr) (hV : PV w P [1, 2, 3, 4, 5, 6, 7, 8, 9, 10, 11]) (hS : Sents w P) : Calls Tryz.prog 76 #[] w (RetE (.bool true) w) := by
 have HV := Lib.hid hV
 have HS := Lib.hid hS
 clear hV hS
 go_enter Tryz.func76, Tryz.ntmps76
 go_wp2_with fail
 refine (playNew_any w P HV.out).mono ?_
 rintro e w1 ⟨rfl, D, hp⟩
 have hx1 : Ext w1 (w1.alloc (.cells #[.int .i64 0, .int .i64 (-1), .int .i64 5] 3 (0, 0))) := Only.alloc _ _ _
 have hrd := rd_litI (zs := [0, -1, 5]) (MapKept.heap_alloc w1 (.cells #[.int .i64 0, .int .i64 (-1), .int .i64 5] 3 (0, 0))).1 rfl (by decide)
 have hru := playRun_any P (hp.grow hx1) (Holds.rdI hrd (fun i e k => by
  have e : w1.heap.size = i := Option.some.inj e
  have := (hp.lt i k).2
  omega)) (by decide) (by decide) HV.out HS.out
 have HRU := Lib.hid hru
 clear hp hx1 hrd hru
 go_wp2_with fail
 refine HRU.out.mono ?_
 rintro e w2 ⟨vo, D2, rfl, hrow, hp2, _, _⟩
 rw [played_codes] at hrow
 have HX2 := Lib.hid hp2.ext
 have hx3 : Ext w2 (w2.alloc (.cells #[.int .i64 0, .int .i64 (-1), .int .i64 0] 3 (0, 0))) := Only.alloc _ _ _
 have hrd3 := rd_litI (zs := [0, -1, 0]) (MapKept.heap_alloc w2 (.cells #[.int .i64 0, .int .i64 (-1), .int .i64 0] 3 (0, 0))).1 rfl (by decide)
 have hsi := sameInts_any _ vo _ [0, -1, 0] [0, -1, 0] ((RowZ.rd hrow).ext hx3) hrd3
 have HSI := Lib.hid hsi
 have HX3 := Lib.hid (HX2.out.then hx3)
 obtain ⟨av, cv, rfl, _⟩ := RowZ.rd hrow
 clear hrow hp2 hx3 hrd3 hsi HRU
 go_wp2_with fail
 refine HSI.out.mono ?_
 rintro e w4 ⟨rfl, hd4⟩
 have HX4 := Lib.hid (HX3.out.then hd4.ext)
 clear hd4
 go_wp2_with fail
 refine (playSheet_any w4).mono ?_
 rintro e w5 ⟨v5, rfl, hr5, ho5⟩
 have HR5 := Lib.hid hr5
 have HX5 := Lib.hid (HX4.out.then ho5)
 obtain ⟨a5, c5, rfl, _⟩ := hr5
 clear ho5
 go_wp2_with fail
 refine (playSheetM_any w5).mono ?_
 rintro e w6 ⟨v6, rfl, hr6, ho6⟩
 have HSR := Lib.hid (sameRules_any w6 playL _ v6 (HR5.out.ext ho6) hr6 (by decide))
 have HX6 := Lib.hid (HX5.out.then ho6)
 obtain ⟨a6, c6, rfl, _⟩ := hr6
 clear ho6
 go_wp2_with fail
 refine HSR.out.mono ?_
 rintro e w7 ⟨rfl, ho7⟩
 have HX7 := Lib.hid (HX6.out.then ho7)
 clear ho7
 go_wp2_with fail
 go_ret
 exact ⟨rfl, HX7.out⟩
set_option maxRecDepth 100000 in
set_option maxHeartbeats 16000000 in
theorem walkPlayAgain (w : World) (P : Nat → Addr) (zs : List Int) (v0 : Value) (hv0 : Rd I w v0 zs) (hz : ∀ z ∈ zs, z ≤ 9223372036854775807) (hV : PV w P [1, 2, 3, 4, 5, 6, 7, 8, 9, 10, 11]) (hS : Sents w P) :
  Calls Tryz.prog 9 #[v0] w (RetE (.bool true) w) := by
 have H0 := Lib.hid hv0
 have HV := Lib.hid hV
 have HS := Lib.hid hS
 have HZ := Lib.hid hz
 have HPD := Lib.hid (played_any w P hV hS)
 obtain ⟨a0, q0, rfl, _, hm0, _⟩ := hv0
 have hr0 : zs.length ≤ 9223372036854775807 := by unfold maxLen at hm0; omega
 clear hV hS hz hm0
 go_enter Tryz.func9, Tryz.ntmps9
 go_wp2_with fail
 refine (HPD.out).mono ?_
 rintro e w1 ⟨rfl, ho⟩
 have HX1 := Lib.hid ho
 clear ho
 by_cases hl : (100 : Int) < (zs.length : Int)
 ·go_wp2_with fail
  go_ret
  exact ⟨rfl, HX1.out⟩
 have hlz : (zs.length : Int) ≤ 100 := by omega
 have HL : Hid (zs.length ≤ 100) := Lib.hid (by omega)
 clear hr0
 go_wp2_with fail
 refine (playNew_any w1 P (HV.out.ext HX1.out)).mono ?_
 rintro e w2 ⟨rfl, Da, hpa⟩
 obtain ⟨na, hna⟩ : ∃ na, na = w1.heap.size := ⟨_, rfl⟩
 rw [← hna] at hpa ⊢
 have HPA := Lib.hid hpa
 clear hpa hna
 go_wp2_with fail
 refine (playNew_any w2 P (HV.out.ext (HX1.out.then HPA.out.ext))).mono ?_
 rintro e w3 ⟨rfl, Db, hpb⟩
 obtain ⟨nb, hnb⟩ : ∃ nb, nb = w2.heap.size := ⟨_, rfl⟩
 have hab : ∀ i, Da i → ¬ Db i := fun i e1 e2 => by have := (HPA.out.lt i e1).2; have := (hpb.lt i e2).1; omega
 rw [← hnb] at hpb ⊢
 have HPA3 := Lib.hid (HPA.out.grow hpb.ext)
 have HPB3 := Lib.hid (hpb.older HPA.out.ext)
 have HAB := Lib.hid hab
 have HX3 : Hid (Ext w1 w3) := Lib.hid (HPA.out.ext.then hpb.ext)
 clear hpb hnb hab HPA
 have HRA := Lib.hid (H0.out.ext (HX1.out.then HX3.out))
 go_wp2_with (at_builtin; refine wpIntsNil rfl (.tmp 28) (.tmp 29) _ zs w3 rfl rfl rfl rfl HRA.out (by have := HL.out; omega) ?_; intro v4 w4 HR4 HX4 HO4)
 have hpa4 := HPA3.out.grow HX4.out
 have hpb4 := HPB3.out.grow HX4.out
 have hru := playRun_any P hpa4 (Holds.rdI HR4.out (fun i e k => by
  have := (HO4.out i e).1
  have := (HPA3.out.lt i k).2
  omega)) (by have := HL.out; omega) HZ.out (HV.out.ext HX1.out) (HS.out.ext HX1.out)
 have HRU := Lib.hid hru
 have HPB4 := Lib.hid hpb4
 have HLTB := Lib.hid hpb4.lt
 have HLTA := Lib.hid hpa4.lt
 obtain ⟨a4, c4, rfl, _⟩ := id HR4.out
 clear hpa4 hpb4 hru HPA3 HRA
 go_wp2_with fail
 refine HRU.out.mono ?_
 rintro e w5 ⟨va, Da2, rfl, hrow, hpa5, hmv, hoa⟩
 have HPA5 := Lib.hid hpa5
 have HPB5 := Lib.hid (HPB4.out.other hmv.1 (fun i e => ⟨(HLTA.out i e).1, HAB.out i e⟩))
 have HROW := Lib.hid hrow
 have HAB2 : Hid (∀ i, Db i → ¬ Da2 i) := Lib.hid (fun i e1 e2 => by
  rcases hmv.2 i e2 with k | k
  ·exact HAB.out i k e1
  ·have := (HLTB.out i e1).2; omega)
 obtain ⟨aa, ca, rfl, _⟩ := RowZ.rd hrow
 have HRA5 := Lib.hid (H0.out.ext (HX1.out.then hpa5.ext))
 clear hrow hpa5 hmv hoa HRU HPB4
 go_wp2_with (at_builtin; refine wpIntsNil rfl (.tmp 33) (.tmp 34) _ zs w5 rfl rfl rfl rfl HRA5.out (by have := HL.out; omega) ?_; intro v6 w6 HR6 HX6 HO6)
 have hpb6 := HPB5.out.grow HX6.out
 have hru := playRun_any P hpb6 (Holds.rdI HR6.out (fun i e k => by
  have := (HO6.out i e).1
  have := (HPB5.out.lt i k).2
  omega)) (by have := HL.out; omega) HZ.out (HV.out.ext HX1.out) (HS.out.ext HX1.out)
 have HRU := Lib.hid hru
 have HPA6 := Lib.hid (HPA5.out.grow HX6.out)
 have HROW6 := Lib.hid (HX6.out.row HROW.out (fun _ _ h => h))
 obtain ⟨a6, c6, rfl, _⟩ := id HR6.out
 clear hpb6 hru HPB5 HPA5 HROW HRA5
 go_wp2_with fail
 refine HRU.out.mono ?_
 rintro e w7 ⟨vb, Db2, rfl, hrow, hpb7, hmv, _⟩
 have HPA7 := Lib.hid (HPA6.out.other hmv.1 (fun i e => ⟨(HLTB.out i e).1, HAB2.out i e⟩))
 have HPB7 := Lib.hid hpb7
 have hra7 := hmv.1.row HROW6.out (fun i e e2 => by
  have := (HROW6.out.lt i e).1
  have := (HLTB.out i e2).2
  omega)
 have HSI := Lib.hid (sameInts_any w7 _ _ _ _ (RowZ.rd hra7) (RowZ.rd hrow))
 simp only [beq_self_eq_true] at HSI
 obtain ⟨ab, cb, rfl, _⟩ := RowZ.rd hrow
 clear hrow hpb7 hmv hra7 HRU HPA6 HROW6
 have HF := Lib.hid (play_of)
 generalize (playP ⟨[], [], []⟩ zs).2 = codes at HSI
 generalize (playP ⟨[], [], []⟩ zs).1 = x at HPA7 HPB7
 go_wp2_with fail
 refine HSI.out.mono ?_
 rintro e w8 ⟨rfl, hd8⟩
 have HPA8 := Lib.hid (HPA7.out.grow hd8.ext)
 have HPB8 := Lib.hid (HPB7.out.grow hd8.ext)
 have hsm := fun D n W (h : PlayAt w1 W D n x) => playSum_any P h (HV.out.ext HX1.out)
 generalize sumP x = sm at hsm
 have HSM := Lib.hid hsm
 clear hd8 hsm HPA7 HPB7 HSI
 go_wp2_with fail
 refine (HSM.out _ _ _ HPA8.out).mono ?_
 rintro e w9 ⟨rfl, ho9⟩
 have HPA9 := Lib.hid (HPA8.out.grow ho9)
 have HPB9 := Lib.hid (HPB8.out.grow ho9)
 clear ho9
 go_wp2_with fail
 refine (HSM.out _ _ _ HPB9.out).mono ?_
 rintro e w10 ⟨rfl, ho10⟩
 have HPA10 := Lib.hid (HPA9.out.grow ho10)
 clear ho10 HPA8 HPB8 HPA9 HPB9
 obtain ⟨sv, lv, hy⟩ := HPA10.out.at_
 have hok := HPA10.out.ok
 have hmk := yardMake_any P (.slice none 0 0) [] (playL.map Rule.out) hy (Rd.nil _ _) (by decide) (if_pos rfl).symm play_of hok.ta.ft (hok.oi.ftree (orderFault_ok play_of).1) (HV.out.ext HX1.out)
 unfold RetMk at hmk
 rw [newFault_all play_of] at hmk
 have HMK := Lib.hid hmk
 have HOK := Lib.hid hok
 clear hy hok hmk
 go_wp2_with fail
 refine HMK.out.mono ?_
 rintro e w11 ⟨cv, ev, rfl, he, hcase⟩
 obtain rfl := he.zero rfl
 rcases hcase with ⟨h, _⟩ | ⟨_, D11, sv11, s, L11, _, hi, ho, rfl, hy11, _⟩
 ·exact absurd rfl h
 have hst := fresh_stale (O := x.O) play_of HOK.out.ta.ft play_noClash HOK.out.oi hi ho
 obtain ⟨a, b, c, d, hcv⟩ : ∃ a b c d : Nat, cntV s (needL playL (playL.map Rule.out)) = #[IN a, IN b, IN c, IN d] := ⟨_, _, _, _, rfl⟩
 rw [hcv]
 have hy12 := hy11.grow (Only.alloc _ w11 (.cells #[IN a, IN b, IN c, IN d] 70 (0, 0)))
 have hsl := yardStale_any P hy12 play_of HOK.out.ta.ft ((HV.out.ext HX1.out).sub (by decide))
 rw [hst] at hsl
 have HSL := Lib.hid hsl
 have HXE := Lib.hid (HX1.out.then hy12.ext)
 clear he hi ho hy11 hst hcv hy12 hsl HMK
 go_wp2_with fail
 refine HSL.out.mono ?_
 rintro e w13 ⟨v13, rfl, hr13, ho13⟩
 obtain ⟨a13, c13, rfl, _, _, _⟩ := hr13.rd
 have hs0 : (sortB []).length = 0 := by simp [sortB]
 rw [hs0]
 have HXF := Lib.hid (HXE.out.then ho13)
 clear hr13 ho13 hs0
 go_wp2_with fail
 go_ret
 exact ⟨rfl, HXF.out⟩
end Go.Proofs.YtnmhaipjfpongacGreatDoor
