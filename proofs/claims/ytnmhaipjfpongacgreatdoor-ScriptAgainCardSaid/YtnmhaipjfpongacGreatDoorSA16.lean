/- Texts of this seat laid together for one claim: G2. No condition of its own: what each proves stands with its theorems. -/
import Derived.Deep.CutBlock
import Derived.Test.YtnmhaipjfpongacGreatDoorSA15
namespace Go.Proofs.YtnmhaipjfpongacGreatDoor
open Go.ChangeShapes Go.WideShapes Go.ChangeAt Go.RowKit

theorem infoInts : (Tryz.prog.info? 46).map (fun i => (i.zero, i.size, i.bytes)) = some (some (.slice none 0 0), 1, 24) := by kernel_rfl

set_option maxRecDepth 100000 in
theorem run_rows (n : Nat) (hn : n ≤ 1000000) (w : World) : (Instr.makeSlice 77 (.int .i64 (n : Int)) (.int .i64 (n : Int))).run Tryz.prog w =
  .ok (.slice (some ⟨w.heap.size, 0, none⟩) n n) (w.alloc (.cells (Array.replicate n (.slice none 0 0)) 46 (0, 0))) := by
 obtain ⟨i0, hi, hz0, hz1, hz2⟩ := info_parts infoInts
 have h := run_make w 77 46 i0 (.slice none 0 0) Tryz.underlying77 hi hz0 .i64 .i64 (n : Int) (n : Int) (by omega) (Int.le_refl _) (by rw [hz2]; omega) (by omega)
 rw [h, hz1]
 rw [Int.toNat_natCast, Nat.mul_one]
 congr 2
 congr 1
 apply Array.ext
 ·simp [madeCells]
 ·intro i h1 h2
  simp [madeCells, Value.cells, Nat.mod_one]

structure EdAt (l : List Rule) (w wr : World) (ob mb : Nat) (L : List (B × Nat)) (i bs : Nat) (u : Value) (cur : List Nat) (f : Nat → Value) : Prop where
 ext : Ext w wr
 map : KMap .string S IN wr mb L
 tab : TabAt wr ob 46 l.length f
 done : ∀ k, k < i → Rd IN wr (f k) (edgeB l.length (needB l) k) ∧ ∀ b, (f k).ownBlock = some b → b < bs ∧ b ≠ ob ∧ b ≠ mb
 rest : ∀ k, i < k → f k = .slice none 0 0
 at_ : f i = u
 row : RowI bs wr u cur
 lo : w.heap.size ≤ ob ∧ w.heap.size ≤ mb ∧ ob < bs ∧ mb < bs ∧ bs ≤ wr.heap.size ∧ ob ≠ mb

theorem Rd.only {α : Type} {enc : α → Value} {w w' : World} {v : Value} {l : List α} {p : Nat → Prop} (h : Rd enc w v l) (ho : Only p w w') (hp : ∀ b, v.ownBlock = some b → ¬ p b) : Rd enc w' v l := by
 obtain ⟨a, cap, h1, h2, h3, h4⟩ := h
 refine ⟨a, cap, h1, h2, h3, fun hl => ?_⟩
 obtain ⟨b, off, h5, h6⟩ := h4 hl
 refine ⟨b, off, h5, fun i x hx => ho.cellOf (h6 i x hx) (hp b ?_)⟩
 rw [h1, h5]
 rfl

theorem EdAt.later {l : List Rule} {w wr w' : World} {ob mb i bs : Nat} {L : List (B × Nat)} {u : Value} {cur cur' : List Nat} {f : Nat → Value} (h : EdAt l w wr ob mb L i bs u cur f) (ho : Only (fun b => u.ownBlock = some b) wr w') (hr : RowI bs w' u cur') : EdAt l w w' ob mb L i bs u cur' f := by
 have hb : ∀ b, u.ownBlock = some b → bs ≤ b := h.row.base
 obtain ⟨l1, l2, l3, l4, l5, l6⟩ := h.lo
 refine ⟨h.ext.trans ho (fun _ _ h => h) (fun k hk e => by have := hb k e; omega), h.map.later ho (fun e => by have := hb _ e; omega), h.tab.later ho (fun e => by have := hb _ e; omega), fun k hk => ?_, h.rest, h.at_, hr, ⟨l1, l2, l3, l4, Nat.le_trans l5 ho.size, l6⟩⟩
 obtain ⟨d1, d2⟩ := h.done k hk
 exact ⟨d1.only ho (fun b e e2 => by have := hb b e2; have := (d2 b e).1; omega), d2⟩
theorem EdAt.grow {l : List Rule} {w wr w' : World} {ob mb i bs : Nat} {L : List (B × Nat)} {u : Value} {cur : List Nat} {f : Nat → Value} (h : EdAt l w wr ob mb L i bs u cur f) (ho : Ext wr w') : EdAt l w w' ob mb L i bs u cur f :=
 h.later ((Only.of_ext ho)) (h.row.ext ho)
theorem EdAt.cell {l : List Rule} {w wr : World} {ob mb i bs : Nat} {L : List (B × Nat)} {u : Value} {cur : List Nat} {f : Nat → Value} (h : EdAt l w wr ob mb L i bs u cur f) (hi : i < l.length) : wr.cell? ⟨ob, i, none⟩ = some u := by
 rw [h.tab.cell hi, h.at_]

theorem EdAt.push {l : List Rule} {w wr w1 : World} {ob mb i bs : Nat} {L : List (B × Nat)} {u u' : Value} {cur cur' : List Nat} {f : Nat → Value} (h : EdAt l w wr ob mb L i bs u cur f) (hg : wr.grownBy w1 u.ownBlock) (hr : RowI bs w1 u' cur') :
  EdAt l w (w1.setCell ⟨ob, i, none⟩ u') ob mb L i bs u' cur' (fun k => if k = i then u' else f k) := by
 have ho : Only (fun b => u.ownBlock = some b) wr w1 := Only.of_grown hg
 have hb : ∀ b, u.ownBlock = some b → bs ≤ b := h.row.base
 have hb' : ∀ b, u'.ownBlock = some b → bs ≤ b := hr.base
 obtain ⟨l1, l2, l3, l4, l5, l6⟩ := h.lo
 have hs : Only (fun b => b = ob) w1 (w1.setCell ⟨ob, i, none⟩ u') := Only.set u' rfl
 have h1 := h.ext.trans ho (fun _ _ h => h) (fun k hk e => by have := hb k e; omega)
 refine ⟨h1.trans hs (fun _ _ h => h) (fun k hk e => by omega), (h.map.later ho (fun e => by have := hb _ e; omega)).later hs (fun e => l6 e.symm), (h.tab.later ho (fun e => by have := hb _ e; omega)).set i u', fun k hk => ?_, fun k hk => ?_, if_pos rfl, hs.row hr (fun b e e2 => by have := hb' b e; omega), ⟨l1, l2, l3, l4, Nat.le_trans l5 (Nat.le_trans ho.size hs.size), l6⟩⟩
 ·obtain ⟨d1, d2⟩ := h.done k hk
  have e : (if k = i then u' else f k) = f k := if_neg (by omega)
  show Rd IN _ (if k = i then u' else f k) _ ∧ ∀ b, (if k = i then u' else f k).ownBlock = some b → _
  rw [e]
  exact ⟨(d1.only ho (fun b e e2 => by have := hb b e2; have := (d2 b e).1; omega)).only hs (fun b e e2 => (d2 b e).2.1 e2), d2⟩
 ·show (if k = i then u' else f k) = _
  rw [if_neg (by omega)]
  exact h.rest k hk

theorem EdAt.step {l : List Rule} {w wr : World} {ob mb i bs : Nat} {L : List (B × Nat)} {u : Value} {f : Nat → Value} (h : EdAt l w wr ob mb L i bs u (edgeB l.length (needB l) i) f) : EdAt l w wr ob mb L (i + 1) wr.heap.size (.slice none 0 0) [] f := by
 obtain ⟨l1, l2, l3, l4, l5, l6⟩ := h.lo
 refine ⟨h.ext, h.map, h.tab, fun k hk => ?_, fun k hk => h.rest k (by omega), h.rest _ (Nat.lt_succ_self _), RowI.nil _ _, ⟨l1, l2, by omega, by omega, Nat.le_refl _, l6⟩⟩
 rcases Nat.lt_succ_iff_lt_or_eq.1 hk with h1 | rfl
 ·obtain ⟨d1, d2⟩ := h.done k h1
  exact ⟨d1, fun b e => ⟨by have := (d2 b e).1; omega, (d2 b e).2⟩⟩
 ·rw [h.at_]
  exact ⟨h.row.rd, fun b e => by have := h.row.lt b e; exact ⟨this.2, by omega, by omega⟩⟩

theorem EdAt.start {l : List Rule} {w wr : World} {mb : Nat} {L : List (B × Nat)} (hx : Ext w wr) (hm : KMap .string S IN wr mb L) (hb : w.heap.size ≤ mb) :
  EdAt l w (wr.alloc (.cells (Array.replicate l.length (.slice none 0 0)) 46 (0, 0))) wr.heap.size mb L 0 (wr.heap.size + 1) (.slice none 0 0) [] (fun _ => .slice none 0 0) := by
 have hlt := hm.lt
 exact ⟨hx.thenAlloc _, hm.later (Only.alloc (fun _ => False) _ _) (fun h => h), TabAt.made wr _ _ _, fun k hk => absurd hk (Nat.not_lt_zero _), fun _ _ => rfl, rfl, RowI.nil _ _, ⟨hx.size, hb, Nat.lt_succ_self _, by omega, by simp, by omega⟩⟩

theorem EdAt.out {l : List Rule} {w wr : World} {ob mb bs : Nat} {L : List (B × Nat)} {u : Value} {cur : List Nat} {f : Nat → Value} (h : EdAt l w wr ob mb L l.length bs u cur f) (hl : l.length ≤ 1000000) : RdLL wr (.slice (some ⟨ob, 0, none⟩) l.length l.length) ((List.range l.length).map (edgeB l.length (needB l))) := by
 refine ⟨_, l.length, by simp, by simp, by unfold maxLen; omega, fun _ => ⟨ob, 0, rfl, fun i x hx => ?_⟩⟩
 rw [List.getElem?_map] at hx
 obtain ⟨k, hk, rfl⟩ := Option.map_eq_some_iff.1 hx
 obtain ⟨h1, h2⟩ := List.getElem?_eq_some_iff.1 hk
 have hi : i < l.length := by simpa using h1
 have : i = k := by simpa using h2
 subst this
 rw [Nat.zero_add]
 exact ⟨f i, (h.done i hi).1, h.tab.cell hi⟩

theorem EdAt.mid {l : List Rule} {w wr w1 : World} {ob mb i bs : Nat} {L : List (B × Nat)} {u : Value} {cur : List Nat} {f : Nat → Value} (h : EdAt l w wr ob mb L i bs u cur f) (hg : wr.grownBy w1 u.ownBlock) : TabAt w1 ob 46 l.length f :=
 h.tab.later (Only.of_grown hg) (fun e => by have := h.row.base _ e; have := h.lo; omega)

theorem cur_len (l : List Rule) (ins : List B) : (curB l ins).length ≤ ins.length := List.length_filterMap_le _ _

theorem cur_step {l : List Rule} {ins : List B} {t : Nat} {s : B} (h : ins[t]? = some s) : curB l (ins.take (t + 1)) = curB l (ins.take t) ++ (match byB l l.length s with | some k => [k] | none => []) := by
 unfold curB
 rw [List.take_add_one, h, Option.toList_some, List.filterMap_append]
 congr 1
 simp only [List.filterMap_cons, List.filterMap_nil]
 cases byB l l.length s <;> rfl

set_option maxRecDepth 100000 in
set_option maxHeartbeats 4000000 in
theorem edges_any (w : World) (l : List Rule) (v : Value) (hv : RdR w v l) (hr : RightS l) (hs : ∀ r ∈ l, r.ins.length ≤ 900000) :
  Calls Tryz.prog 160 #[v] w (RetLL ((List.range l.length).map (edgeB l.length (needB l))) w) := by
 have HRD := Lib.hid hv
 obtain ⟨a, cap, rfl, hcap, hml, hc⟩ := hv
 have hl40 : l.length ≤ 40 := hr.1
 have hlz : (l.length : Int) ≤ 40 := by omega
 have HC := Lib.hid hc
 have HS := Lib.hid hs
 have HR := Lib.hid hr
 clear hc hs hr
 have HM0 : Hid (KMap .string S IN (w.alloc (.map #[] 0)) w.heap.size []) := Lib.hid (KMap.made w .string S IN)
 have HX0 : Hid (Ext w (w.alloc (.map #[] 0))) := Lib.hid (Only.alloc _ _ _)
 obtain ⟨mb, hmb⟩ : ∃ mb, mb = w.heap.size := ⟨_, rfl⟩
 have HB : Hid (w.heap.size ≤ mb) := Lib.hid (by omega)
 have hmm := @run_makeMap Tryz.prog
 clear hml
 go_enter Tryz.func160, Tryz.ntmps160
 go_wp2_with fail
 clear hmm
 generalize (w.alloc (.map #[] 0)) = wm at *
 rw [← hmb] at HM0 ⊢
 clear hmb
 go_loopw [4, 5, 16] (fun _ _ i wr => ∃ (j : Nat) (L : List (B × Nat)), j ≤ l.length ∧ i = .int .i64 j ∧ Hid (KMap .string S IN wr mb L) ∧ Hid (∀ s, L.lookup s = byB l j s) ∧ Hid (Ext w wr)) (fun _ _ i _ => l.length - (intOf i).toNat)
 case atStart => exact ⟨0, [], Nat.zero_le _, rfl, HM0, Lib.hid (fun s => rfl), HX0⟩
 case round =>
  obtain ⟨j, L, hj, rfl, HM, HLK, HX⟩ := hrel
  by_cases hlt : j < l.length
  ·have hltz : (j : Int) < (l.length : Int) := by omega
   have hj0 : (0 : Int) ≤ (j : Int) := by omega
   obtain ⟨b, off, rfl, hcell⟩ := HC.out (by intro h; rw [h] at hlt; simp at hlt)
   obtain ⟨r, hq⟩ : ∃ y, l[j]? = some y := ⟨_, List.getElem?_eq_getElem hlt⟩
   obtain ⟨u, hu, c0, c1, c2, c3⟩ := hcell j r hq
   have d0 := HX.out.cellOf c0 (fun h => h)
   have d1 := HX.out.cellOf c1 (fun h => h)
   have d2 := HX.out.cellOf c2 (fun h => h)
   have d3 := HX.out.cellOf c3 (fun h => h)
   have HLK2 := Lib.hid (by_step hq HLK.out)
   obtain ⟨w2, hrun, hm2, ho2, hs2⟩ := KMap.store (P := Tryz.prog) keyOk_str (HM.out.later (Only.alloc (fun _ => False) wr (.cells #[S r.out, S r.kind, S r.word, u] 55 (0, 0))) (fun h => h)) Tryz.underlying181 Tryz.underlying9 r.out j
   have HX2 : Hid (Ext w w2) := Lib.hid ((HX.out.thenAlloc _).trans ho2 (fun _ _ h => h) (fun i hi e => by have := HB.out; omega))
   obtain ⟨au, cu, hua, _, _, _⟩ := hu
   generalize r.ins.length = ln at hua
   subst hua
   have HM2 := Lib.hid hm2
   clear hm2
   clear hcell hq c0 c1 c2 c3 ho2 hs2
   go_wp2_with fail
   go_roundw
   case rel => exact ⟨j + 1, _, by omega, by go_num, HM2, HLK2, HX2⟩
   case measure => simp [intOf]; omega
  ·have hltz : ¬ (j : Int) < (l.length : Int) := by omega
   obtain rfl : j = l.length := by omega
   have hmk := run_rows l.length (by omega) wr
   have HE := Lib.hid (EdAt.start (l := l) HX.out HM.out HB.out)
   clear HM HX hj hlt
   go_wp2_with fail
   obtain ⟨ob, hob⟩ : ∃ ob, ob = wr.heap.size := ⟨_, rfl⟩
   generalize (wr.alloc (.cells (Array.replicate l.length (.slice none 0 0)) 46 (0, 0))) = wo at HE ⊢
   rw [← hob] at HE ⊢
   clear hob hmk
   go_loopw [7, 8, 10, 11, 12, 31] (fun _ _ _ _ _ i wq => ∃ (j bs : Nat) (f : Nat → Value), j ≤ l.length ∧ i = .int .i64 j ∧ Hid (EdAt l w wq ob mb L j bs (.slice none 0 0) [] f)) (fun _ _ _ _ _ i _ => l.length - (intOf i).toNat)
   case atStart => exact ⟨0, _, _, Nat.zero_le _, rfl, HE⟩
   case round =>
    clear HE
    obtain ⟨j, bs, f, hj, rfl, HE⟩ := hrel
    by_cases hlt : j < l.length
    ·have hltz : (j : Int) < (l.length : Int) := by omega
     have hj0 : (0 : Int) ≤ (j : Int) := by omega
     obtain ⟨b, off, rfl, hcell⟩ := HC.out (by intro h; rw [h] at hlt; simp at hlt)
     obtain ⟨r, hq⟩ : ∃ y, l[j]? = some y := ⟨_, List.getElem?_eq_getElem hlt⟩
     obtain ⟨u, hu, c0, c1, c2, c3⟩ := hcell j r hq
     have d0 := HE.out.ext.cellOf c0 (fun h => h)
     have d1 := HE.out.ext.cellOf c1 (fun h => h)
     have d2 := HE.out.ext.cellOf c2 (fun h => h)
     have d3 := HE.out.ext.cellOf c3 (fun h => h)
     have hsr := HS.out r (List.mem_of_getElem? hq)
     have HCS := Lib.hid (cur_sorted HR.out hq)
     have HE2 := Lib.hid (HE.out.grow (Only.alloc (fun _ => False) wr (.cells #[S r.out, S r.kind, S r.word, u] 55 (0, 0))))
     obtain ⟨au, cu, hua, _, _, hci⟩ := hu
     obtain ⟨ins, hins⟩ : ∃ ins, ins = r.ins := ⟨_, rfl⟩
     rw [← hins] at hsr HCS hua hci
     subst hua
     have HCI := Lib.hid hci
     have HSR := Lib.hid hsr
     clear hci hsr
     have hinz : (ins.length : Int) ≤ 900000 := by have := HSR.out; omega
     clear hcell hq c0 c1 c2 c3 hins HE
     go_wp2_with fail
     generalize (wr.alloc (.cells #[S r.out, S r.kind, S r.word, .slice au ins.length cu] 55 (0, 0))) = wa at HE2 ⊢
     go_loopw [10, 11, 12, 39] (fun _ _ _ t wx => ∃ (i : Nat) (u : Value) (f : Nat → Value), i ≤ ins.length ∧ t = .int .i64 i ∧ Hid (EdAt l w wx ob mb L j bs u (curB l (ins.take i)) f)) (fun _ _ _ t _ => ins.length - (intOf t).toNat)
     case atStart => exact ⟨0, _, _, Nat.zero_le _, rfl, HE2⟩
     case round =>
      clear HE2
      obtain ⟨i, u, f, hi, rfl, HE⟩ := hrel
      have t0 := HE.out.cell hlt
      by_cases hil : i < ins.length
      ·have hilz : (i : Int) < (ins.length : Int) := by omega
       have hi0 : (0 : Int) ≤ (i : Int) := by omega
       obtain ⟨b2, off2, rfl, hcell⟩ := HCI.out (by intro h; rw [h] at hil; simp at hil)
       obtain ⟨s, hs⟩ : ∃ y, ins[i]? = some y := ⟨_, List.getElem?_eq_getElem hil⟩
       have e0 := HE.out.ext.cellOf (hcell i s hs) (fun h => h)
       have hlk := KMap.look (P := Tryz.prog) keyOk_str HE.out.map Tryz.underlying181 Tryz.underlying9 (z := .int .i64 0) (by kernel_rfl) s
       rw [HLK.out s] at hlk
       have hst := cur_step (l := l) hs
       have hcl : (curB l (ins.take i)).length ≤ 900000 := by
        have h1 := cur_len l (ins.take i)
        rw [List.length_take] at h1
        have := HSR.out
        omega
       cases hby : byB l l.length s with
       | none =>
        rw [hby] at hlk hst
        simp only [List.append_nil] at hst
        have HE3 := HE
        rw [← hst] at HE3
        clear hcell hs hst hby
        go_wp2_with fail
        go_roundw
        case rel => exact ⟨i + 1, u, f, by omega, by go_num, HE3⟩
        case measure => simp [intOf]; omega
       | some k =>
        rw [hby] at hlk hst
        simp only [Option.isSome_some] at hlk
        have HST := Lib.hid hst
        have HCL := Lib.hid hcl
        clear hcell hs hst hby hcl
        go_wp2_with (at_builtin; refine wpNum rfl (.tmp 55) (.tmp 57) w bs u (curB l (ins.take i)) k wr rfl rfl rfl rfl HE.out.row (Nat.le_trans HCL.out (by decide)) HE.out.lo.2.2.2.2.1 HE.out.ext (by have := HE.out.lo; omega) ?_; intro g5 cap5 w5 HR5 _ HG5; have htab := HE.out.mid HG5.out; have hfz := htab.free j; have hc5 := htab.cell hlt; have HP5 := Lib.hid (HE.out.push HG5.out HR5.out); clear htab)
        go_roundw
        case rel => exact ⟨i + 1, _, _, by omega, by go_num, Lib.hid (by rw [HST.out]; exact HP5.out)⟩
        case measure => simp [intOf]; omega
      ·have hilz : ¬ (i : Int) < (ins.length : Int) := by omega
       have ht : ins.take i = ins := List.take_of_length_le (by omega)
       rw [ht] at HE
       have hcl : (curB l ins).length ≤ 1000000 := by have h1 := cur_len l ins; have := HSR.out; omega
       have hsort := sort_rowI wr bs u (curB l ins) HE.out.row hcl
       rw [HCS.out] at hsort
       have HSO := Lib.hid hsort
       clear hsort hcl ht hi
       rcases HE.out.row.cases with ⟨rfl, hnil⟩ | ⟨g, cp, rfl⟩
       ·clear hnil
        go_wp2_with fail
        refine HSO.out.mono ?_
        rintro e w6 ⟨rfl, hr6, ho6⟩
        have HE6 := Lib.hid (HE.out.later ho6 hr6).step
        clear hr6 ho6
        go_wp2_with fail
        go_roundw
        case rel => exact ⟨j + 1, _, _, by omega, by go_num, HE6⟩
        case measure => simp [intOf]; omega
       ·go_wp2_with fail
        refine HSO.out.mono ?_
        rintro e w6 ⟨rfl, hr6, ho6⟩
        have HE6 := Lib.hid (HE.out.later ho6 hr6).step
        clear hr6 ho6
        go_wp2_with fail
        go_roundw
        case rel => exact ⟨j + 1, _, _, by omega, by go_num, HE6⟩
        case measure => simp [intOf]; omega
    ·have hltz : ¬ (j : Int) < (l.length : Int) := by omega
     obtain rfl : j = l.length := by omega
     have HO := Lib.hid (HE.out.out (by omega))
     go_wp2_with fail
     go_ret
     exact ⟨_, rfl, HO.out, HE.out.ext⟩
end Go.Proofs.YtnmhaipjfpongacGreatDoor
