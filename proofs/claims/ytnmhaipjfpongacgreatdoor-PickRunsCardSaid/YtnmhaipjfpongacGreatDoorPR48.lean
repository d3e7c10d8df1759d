/- Texts of this seat laid together for one claim: Z29. No condition of its own: what each proves stands with its theorems. -/
import Derived.Deep.CutBlock
import Derived.Deep.DeepCutAuto
import Derived.Test.YtnmhaipjfpongacGreatDoorPR33
namespace Go.Proofs.YtnmhaipjfpongacGreatDoor
open Go.ChangeShapes Go.WideShapes Go.ChangeAt Go.RowKit

theorem set_rows {rs : List HD} {n i : Nat} {p : HD} (hp : rs[n]? = some p) (u : Option Addr × Nat × Nat) : (rs.set n (u, p.2 ++ [i])).map (·.2) = (rs.map (·.2)).set n ((rs.map (·.2)).getD n [] ++ [i]) := by
 rw [List.map_set]
 congr 1
 rw [List.getD_eq_getElem?_getD, List.getElem?_map, hp]
 rfl
theorem sorted_step {rows : List (List Nat)} {t : Nat} {r : List Nat} (h : rows[t]? = some r) : ((rows.take t).map sortN ++ rows.drop t).set t (sortN r) = (rows.take (t + 1)).map sortN ++ rows.drop (t + 1) := by
 have ht := (List.getElem?_eq_some_iff.1 h).1
 have hl : ((rows.take t).map sortN).length = t := by rw [List.length_map, List.length_take]; omega
 rw [List.set_append, if_neg (by omega), hl, Nat.sub_self, List.drop_eq_getElem_cons ht, (List.getElem?_eq_some_iff.1 h).2, List.set_cons_zero, List.take_add_one, h, List.map_append, List.append_assoc]
 rfl

theorem orderFault_okL {l : List Rule} (h : (orderFault l).1 = 0) : RightS l ∧ orderL l = some (orderOut l) := by
 unfold orderFault at h
 by_cases h0 : (sheetFault l).1 = 0
 ·rw [if_neg (by simpa using h0)] at h
  refine ⟨sheet_ok.1 h0, ?_⟩
  unfold orderOut
  rw [if_neg (by simpa using h0)]
  cases ho : orderL l with
  | some o => rfl
  | none => rw [ho] at h; cases h
 ·rw [if_pos h0] at h
  exact absurd h h0

def RetLev (P : Nat → Addr) (l : List Rule) (w : World) (e : Ending) (w' : World) : Prop :=
 ∃ v ev, e = .returned (.tuple #[v, ev]) ∧ ErrAt w' P (orderFault l) ev ∧ Ext w w' ∧ (((orderFault l).1 ≠ 0 ∧ v = .slice none 0 0) ∨ ((orderFault l).1 = 0 ∧ RdLL w' v (levelsL l)))

set_option maxRecDepth 100000 in
set_option maxHeartbeats 16000000 in
theorem levels_any (w : World) (P : Nat → Addr) (l : List Rule) (v : Value) (hv : RdR w v l) (hs : ∀ r ∈ l, RuleSm 900000 r) (hV : PV w P [1, 2, 3, 4, 6, 8, 9]) :
  Calls Tryz.prog 45 #[v] w (RetLev P l w) := by
 have HOR := Lib.hid (graphOrder_any w P l v hv hs hV)
 have HSM := Lib.hid (fun r hr => (hs r hr).many)
 obtain ⟨a, cap, rfl, _, _, hc⟩ := hv
 have HC := Lib.hid hc
 clear hs hV hc
 go_enter Tryz.func45, Tryz.ntmps45
 go_wp2_with fail
 refine HOR.out.mono ?_
 rintro e w5 ⟨vo, ev, rfl, hrow, he, ho⟩
 have HX5 := Lib.hid ho
 have HEE := Lib.hid he
 by_cases hf : (orderFault l).1 = 0
 case neg =>
  obtain ⟨t, p, rfl⟩ := he.some hf
  have HF := Lib.hid hf
  clear hrow he ho hf
  go_wp2_with fail
  go_ret2
  exact ⟨_, _, rfl, HEE.out, HX5.out, .inl ⟨HF.out, rfl⟩⟩
 case pos =>
  obtain rfl := he.zero hf
  have HF := Lib.hid hf
  obtain ⟨hR, hol⟩ := orderFault_okL hf
  obtain ⟨o, hoo⟩ : ∃ o, o = orderOut l := ⟨_, rfl⟩
  rw [← hoo] at hrow hol
  have hord := (orderB_some hol).1
  have HLT := Lib.hid (fun i (hi : i ∈ o) => hord.lt i hi)
  have HLV : Hid (levelsL l = (lvFold l o).2.map sortN) := Lib.hid (by unfold levelsL; rw [hoo])
  have hlen : o.length ≤ 40 := by
   have := hord.len
   have := manyB_le l.length (fun _ => true)
   have := hR.1
   omega
  have hl40 := hR.1
  obtain ⟨ao, co, rfl, _, _, hco⟩ := hrow.rd
  have HCO := Lib.hid hco
  have hoz : (o.length : Int) ≤ 40 := by omega
  have hlz : (l.length : Int) ≤ 40 := by omega
  have hmm := @run_makeMap Tryz.prog
  have HL0 : Hid (LvAt w5 (w5.alloc (.map #[] 0)) w5.heap.size (lvFold l (o.take 0)).1 (.slice none 0 0) []) := Lib.hid (LvAt.start (Only.alloc _ _ _) (KMap.made w5 .string S IN) (Nat.le_refl _))
  clear hrow he ho hf hR hol hoo hord hco
  go_wp2_with fail
  generalize (w5.alloc (.map #[] 0)) = wm at HL0 ⊢
  obtain ⟨mb, hmb⟩ : ∃ mb, mb = w5.heap.size := ⟨_, rfl⟩
  rw [← hmb] at HL0 ⊢
  clear hmb hmm
  go_loopw [7, 9, 10, 12, 13, 14, 28] (fun q _ _ _ _ _ i wr => ∃ (j : Nat) (rs : List HD) (qv : Value), qv = q ∧ j ≤ o.length ∧ i = .int .i64 j ∧ Hid (LvAt w5 wr mb (lvFold l (o.take j)).1 qv rs) ∧ Hid (rs.map (·.2) = (lvFold l (o.take j)).2)) (fun _ _ _ _ _ _ i _ => o.length - (intOf i).toNat)
  case atStart => exact ⟨0, [], _, rfl, Nat.zero_le _, rfl, HL0, Lib.hid rfl⟩
  case round =>
   clear HL0
   obtain ⟨j, rs, qv, rfl, hj, rfl, HL, HRS⟩ := hrel
   have HOK := Lib.hid (lvOk_fold (l := l) o j hj)
   by_cases hlt : j < o.length
   ·have hltz : (j : Int) < (o.length : Int) := by omega
    have hj0 : (0 : Int) ≤ (j : Int) := by omega
    have hj1 : ¬ (j : Int) < 0 := by omega
    have hj2 : ¬ (o.length : Int) ≤ (j : Int) := by omega
    obtain ⟨bo, oo, rfl, hcello⟩ := HCO.out (by intro h; rw [h] at hlt; simp at hlt)
    obtain ⟨i, hi⟩ : ∃ y, o[j]? = some y := ⟨_, List.getElem?_eq_getElem hlt⟩
    have hil := HLT.out i (List.mem_of_getElem? hi)
    have di := HL.out.ext.cellOf (hcello j i hi) (fun h => h)
    have hiz : (i : Int) < (l.length : Int) := by omega
    have hi0 : (0 : Int) ≤ (i : Int) := by omega
    have hi1 : ¬ (i : Int) < 0 := by omega
    have hi2 : ¬ (l.length : Int) ≤ (i : Int) := by omega
    obtain ⟨b, off, rfl, hcell⟩ := HC.out (by intro h; rw [h] at hil; simp at hil)
    obtain ⟨u, hu, c0, _, _, c3⟩ := hcell i _ (ruleAt_eq hil)
    have hsm := HSM.out _ (List.mem_of_getElem? (ruleAt_eq hil))
    have HST := Lib.hid (lvFold_step (l := l) hi)
    unfold lvStep at HST
    generalize lvFold l (o.take j) = st at HL HRS HOK HST
    obtain ⟨L, rows⟩ := st
    generalize ruleAt l i = r at hu c0 c3 hsm HST
    have HK0 := Lib.hid (HX5.out.cellOf c0 (fun h => h))
    have d0 := HL.out.ext.cellOf HK0.out (fun h => h)
    have d3 := HL.out.ext.cellOf (HX5.out.cellOf c3 (fun h => h)) (fun h => h)
    obtain ⟨au, cu, rfl, _, _, hcu⟩ := hu
    have HCU := Lib.hid hcu
    have hrz : (r.ins.length : Int) ≤ 900000 := by omega
    have HJ := Lib.hid hlt
    have hrsl : rs.length ≤ 40 := by have h1 : rs.length = rows.length := (by have h := congrArg List.length HRS.out; rwa [List.length_map] at h); have h2 : rows.length ≤ j := HOK.out.few; omega
    have hrsz : (rs.length : Int) ≤ 40 := by omega
    have HRL := Lib.hid hrsl
    obtain ⟨qa, qc, rfl⟩ := HL.out.form
    obtain ⟨wq, hwq⟩ : ∃ wq, wq = wr := ⟨_, rfl⟩
    subst hwq
    clear hrsl hcello hi hil hcell hcu c0 c3 hsm hlt
    go_wp2_with fail
    go_loopw [10, 12, 13, 14, 38] (fun n _ _ _ t wx => ∃ (t' nn : Nat), t' ≤ r.ins.length ∧ n = .int .i64 nn ∧ t = .int .i64 t' ∧ wx = wq ∧ Hid (nn = lvN L (r.ins.take t'))) (fun _ _ _ _ t _ => r.ins.length - (intOf t).toNat)
    case atStart => exact ⟨0, 0, Nat.zero_le _, rfl, rfl, rfl, Lib.hid rfl⟩
    case round =>
     obtain ⟨t, nn, ht, rfl, rfl, rfl, HNN⟩ := hrel
     by_cases htl : t < r.ins.length
     ·have htz : (t : Int) < (r.ins.length : Int) := by omega
      have ht0 : (0 : Int) ≤ (t : Int) := by omega
      have ht1 : ¬ (t : Int) < 0 := by omega
      have ht2 : ¬ (r.ins.length : Int) ≤ (t : Int) := by omega
      obtain ⟨bu, ou, rfl, hcellu⟩ := HCU.out (by intro h; rw [h] at htl; simp at htl)
      obtain ⟨s, hs⟩ : ∃ y, r.ins[t]? = some y := ⟨_, List.getElem?_eq_getElem htl⟩
      have e0 := HL.out.ext.cellOf (HX5.out.cellOf (hcellu t s hs) (fun h => h)) (fun h => h)
      have hlk := KMap.look (P := Tryz.prog) keyOk_str HL.out.map Tryz.underlying181 Tryz.underlying9 (z := .int .i64 0) (by kernel_rfl) s
      have HNS := Lib.hid (lvN_step (L := L) hs)
      unfold lvOne at HNS
      rw [← HNN.out] at HNS
      have hkb := HOK.out.look s
      have HTL := Lib.hid htl
      clear hcellu hs htl
      cases hl : L.lookup s with
      | none =>
       simp only [hl] at hlk HNS
       simp only [Option.isSome_none] at hlk
       clear hkb hl
       go_wp2_with fail
       go_roundw
       case rel => exact ⟨t + 1, nn, HTL.out, by first | trivial | go_num, by go_num, by first | trivial | rfl, Lib.hid HNS.out.symm⟩
       case measure => have := HTL.out; simp [intOf]; omega
      | some k =>
       simp only [hl] at hlk HNS
       simp only [Option.isSome_some] at hlk
       have hk1 : k < rows.length := hkb k hl
       have hkz : (k : Int) ≤ 40 := by have h2 : rows.length ≤ j := HOK.out.few; omega
       obtain ⟨m, hm⟩ : ∃ m, m = max nn (k + 1) := ⟨_, rfl⟩
       have hmx : max (nn : Int) ((k : Int) + 1) = (m : Int) := by rw [hm]; omega
       rw [← hm] at HNS
       clear hkb hl hk1 hm
       go_wp2_with fail
       go_roundw
       case rel => exact ⟨t + 1, m, HTL.out, by first | trivial | go_num, by go_num, by first | trivial | rfl, Lib.hid HNS.out.symm⟩
       case measure => have := HTL.out; simp [intOf]; omega
     ·have htz : ¬ (t : Int) < (r.ins.length : Int) := by omega
      have hts : r.ins.take t = r.ins := List.take_of_length_le (by omega)
      rw [hts] at HNN
      rw [← HNN.out] at HST
      have hle : nn ≤ rows.length := by rw [HNN.out]; exact HOK.out.le r.ins
      have HLE : Hid (nn ≤ rs.length) := Lib.hid (by rw [← HRS.out, List.length_map] at hle; exact hle)
      obtain ⟨w2, hrun, hm2, ho2, hs2⟩ := KMap.store (P := Tryz.prog) keyOk_str HL.out.map Tryz.underlying181 Tryz.underlying9 r.out nn
      have HL2 := Lib.hid (HL.out.sets hm2 ho2)
      clear hts hle hm2 ho2 hs2 ht HNN HCU htz d3
      go_upto_if 64 with fail
      go_cut [7, 10] (fun q n wx => ∃ (g cp N : Nat) (rs' : List HD) (p : HD), q = .slice (some ⟨g, 0, none⟩) N cp ∧ n = .int .i64 nn ∧ Hid (N = rs'.length) ∧ Hid (LvAt w5 wx mb ((r.out, nn) :: L.filter fun p => !(p.1 == r.out)) (.slice (some ⟨g, 0, none⟩) rs'.length cp) rs') ∧ Hid (rs'[nn]? = some p) ∧ Hid (∀ u, (rs'.set nn (u, p.2 ++ [i])).map (·.2) = lvPut rows nn i) ∧ Hid (rs'.length ≤ 41) ∧ Hid (p.2.length ≤ 40))
      case first =>
       by_cases hn : nn = rs.length
       ·have hnz : (nn : Int) = (rs.length : Int) := by omega
        have HN := Lib.hid hn
        have HSP : Hid (∀ u, ((rs ++ [((none, 0, 0), [])] : List HD).set nn (u, [] ++ [i])).map (fun x : HD => x.2) = lvPut rows nn i) := Lib.hid (fun u => by
         rw [HN.out, List.set_append, if_neg (by omega), Nat.sub_self, List.set_cons_zero, List.map_append, HRS.out]
         unfold lvPut
         rw [if_pos (by rw [← HRS.out, List.length_map])]
         rfl)
        clear hn
        go_wp2_with (at_builtin; refine wpList_appS encH 77 46 1 24 _ infoInts Tryz.underlying77 rfl (by decide) encH_len encH_one (by decide) (.tmp 65) (.tmp 66) w5.heap.size (.slice qa rs.length qc) rs ((none, 0, 0), []) w2 #[.slice none 0 0] rfl rfl rfl rfl rfl HL2.out.out (Nat.le_trans HRL.out (by decide)) HL2.out.ext.size ?_; intro g3 cap3 w3 hr3 hg3 _; have HL3 := Lib.hid (HL2.out.more (Only.refl _ _) hg3 hr3); clear hr3 hg3)
        go_meet
        exact ⟨g3, cap3, rs.length + 1, _, ((none, 0, 0), []), rfl, by rw [HN.out], Lib.hid (by simp), by simpa using HL3, Lib.hid (by rw [HN.out]; simp), HSP, Lib.hid (by rw [List.length_append, List.length_singleton]; have := HRL.out; omega), Lib.hid (by simp)⟩
       ·have hnz : ¬ (nn : Int) = (rs.length : Int) := by omega
        have hnl : nn < rs.length := by have := HLE.out; omega
        obtain ⟨p, hp⟩ : ∃ p, rs[nn]? = some p := ⟨_, List.getElem?_eq_getElem hnl⟩
        obtain ⟨g, cp, hqv⟩ : ∃ g cp, Value.slice qa rs.length qc = .slice (some ⟨g, 0, none⟩) rs.length cp := by
         rcases HL2.out.out.2 with ⟨_, h2⟩ | ⟨g, cap, _, h1, _⟩
         ·omega
         ·exact ⟨_, cap, h1⟩
        have HP := Lib.hid hp
        have HQV := Lib.hid hqv
        have HSP : Hid (∀ u, (rs.set nn (u, p.2 ++ [i])).map (·.2) = lvPut rows nn i) := Lib.hid (fun u => by
         rw [set_rows HP.out, HRS.out]
         unfold lvPut
         rw [if_neg (by rw [← HRS.out, List.length_map]; exact hn)])
        have HPL : Hid (p.2.length ≤ 40) := Lib.hid (by
         have h1 := HOK.out.short p.2 (show p.2 ∈ rows from by rw [← HRS.out]; exact List.mem_map.2 ⟨p, List.mem_of_getElem? HP.out, rfl⟩)
         omega)
        clear hn hnl hp hqv
        go_wp2_with fail
        go_meet
        exact ⟨g, cp, rs.length, rs, p, HQV.out, rfl, Lib.hid rfl, by rw [← HQV.out]; exact HL2, HP, HSP, Lib.hid (by have := HRL.out; omega), HPL⟩
      case rest =>
       obtain ⟨g, cp, N, rs', p, rfl, rfl, HN, HL3, HP, HSP, HRL2, HPL⟩ := hcut
       have hnn : nn < rs'.length := HL3.out.lt HP.out
       have hnz : (nn : Int) < (N : Int) := by have := HN.out; omega
       have hn0 : (0 : Int) ≤ (nn : Int) := by omega
       have hn1 : ¬ (nn : Int) < 0 := by omega
       have hn2 : ¬ (N : Int) ≤ (nn : Int) := by omega
       have hcell : wc.cell? ⟨g, nn, none⟩ = some (SV p.1) := by rw [World.ownsRow.cellAt HL3.out.out nn (by omega)]; exact encH_get HP.out
       obtain ⟨⟨pa, pn, pc⟩, pl⟩ := p
       have HR := Lib.hid (HL3.out.row nn _ HP.out)
       clear hnn HL2 hrun
       obtain rfl := HN.out
       clear HN
       simp only at HPL
       go_wp2_with (at_builtin; refine wpNum2 rfl (.tmp 73) (.tmp 75) w5.heap.size (.slice pa pn pc) pl i wc rfl rfl rfl rfl HR.out (Nat.le_trans HPL.out (by decide)) HL3.out.ext.size ?_; intro g5 cap5 w6 HR6 HG6 HA6; obtain ⟨q6, q7, hl6⟩ := HL3.out.push HP.out (Only.refl _ _) HG6.out (u' := (some ⟨g5, 0, none⟩, pl.length + 1, cap5)) HR6.out HA6.out; have HL6 := Lib.hid hl6; clear hl6)
       go_roundw
       case rel => exact ⟨j + 1, _, _, rfl, HJ.out, by go_num, by rw [HST.out]; exact HL6, Lib.hid (by rw [HST.out]; exact HSP.out _)⟩
       case measure => have := HJ.out; simp [intOf]; omega
   ·have hltz : ¬ (j : Int) < (o.length : Int) := by omega
    rw [List.take_of_length_le (by omega)] at HL HRS HOK
    obtain ⟨qa, qc, rfl⟩ := HL.out.form
    generalize lvFold l o = st at HL HRS HLV HOK
    obtain ⟨L, rows⟩ := st
    simp only at HL HRS HLV
    obtain ⟨N, hN⟩ : ∃ N, N = rs.length := ⟨_, rfl⟩
    have hNR : N = rows.length := by have h := congrArg List.length HRS.out; rw [List.length_map] at h; omega
    have hNl : N ≤ 40 := by have h : rows.length ≤ j := HOK.out.few; omega
    have hNz : (N : Int) ≤ 40 := by omega
    have HRW := Lib.hid (fun (t : Nat) (r : List Nat) (h : rows[t]? = some r) => (show r.length ≤ 1000000 from by have h1 : r.length ≤ j := HOK.out.short r (List.mem_of_getElem? h); omega))
    rw [← hN] at HL ⊢
    have HNR := Lib.hid hNR
    have HM0 : Hid (rs.map (fun x : HD => x.2) = (rows.take 0).map sortN ++ rows.drop 0) := Lib.hid (by rw [HRS.out]; rfl)
    clear hN hNR hNl hlt hj HOK HRS
    go_wp2_with fail
    go_loopw [16, 81] (fun _ t wx => ∃ (t' : Nat) (rs' : List HD), t' ≤ N ∧ t = .int .i64 t' ∧ Hid (LvAt w5 wx mb L (.slice qa N qc) rs') ∧ Hid (rs'.map (fun x : HD => x.2) = (rows.take t').map sortN ++ rows.drop t')) (fun _ t _ => N - (intOf t).toNat)
    case atStart => exact ⟨0, rs, Nat.zero_le _, rfl, HL, HM0⟩
    case round =>
     clear HL HM0
     obtain ⟨t, rs', ht, rfl, HL, HM⟩ := hrel
     have HLN : Hid (rs'.length = N) := Lib.hid (by
      have h := congrArg List.length HM.out
      rw [List.length_map, List.length_append, List.length_map, List.length_take, List.length_drop] at h
      have := HNR.out
      omega)
     by_cases htl : t < N
     ·have htz : (t : Int) < (N : Int) := by omega
      have ht0 : (0 : Int) ≤ (t : Int) := by omega
      have ht1 : ¬ (t : Int) < 0 := by omega
      have ht2 : ¬ (N : Int) ≤ (t : Int) := by omega
      obtain ⟨g, cp, hqv⟩ : ∃ g cp, Value.slice qa N qc = .slice (some ⟨g, 0, none⟩) N cp := by
       rcases HL.out.out.2 with ⟨_, h2⟩ | ⟨g, cap, _, h1, _⟩
       ·have := HLN.out; omega
       ·exact ⟨g, cap, by rw [h1, HLN.out]⟩
      obtain ⟨rfl, rfl⟩ : qa = some ⟨g, 0, none⟩ ∧ qc = cp := by cases hqv; exact ⟨rfl, rfl⟩
      obtain ⟨p, hp⟩ : ∃ p, rs'[t]? = some p := ⟨_, List.getElem?_eq_getElem (by have := HLN.out; omega)⟩
      obtain ⟨r, hr⟩ : ∃ r, rows[t]? = some r := ⟨_, List.getElem?_eq_getElem (by have := HNR.out; omega)⟩
      have hpr : p.2 = r := by
       have h := congrArg (fun x : List (List Nat) => x[t]?) HM.out
       simp only [List.getElem?_map, hp, Option.map_some] at h
       have hl : ((rows.take t).map sortN).length = t := by rw [List.length_map, List.length_take]; have := HNR.out; omega
       rw [List.getElem?_append_right (by omega), hl, Nat.sub_self, List.getElem?_drop, Nat.add_zero, hr] at h
       exact Option.some.inj h
      have hcell : wr.cell? ⟨g, t, none⟩ = some (SV p.1) := by
       have h := HL.out.out
       rw [HLN.out] at h
       rw [World.ownsRow.cellAt h t (by omega)]
       exact encH_get hp
      have HPP := Lib.hid hp
      have HSO := Lib.hid (sort_rowI wr w5.heap.size (SV p.1) p.2 (HL.out.row t p hp) (by rw [hpr]; exact HRW.out t r hr))
      have HM2 : Hid ((rs'.set t (p.1, sortN p.2)).map (fun x : HD => x.2) = (rows.take (t + 1)).map sortN ++ rows.drop (t + 1)) := Lib.hid (by rw [List.map_set, HM.out, hpr]; exact sorted_step hr)
      have HTL := Lib.hid htl
      obtain ⟨⟨pa, pn, pc⟩, pl⟩ := p
      clear hqv hp hr hpr htl
      go_wp2_with fail
      refine HSO.out.mono ?_
      rintro e w6 ⟨rfl, hr6, ho6⟩
      have HL6 := Lib.hid (HL.out.turn HPP.out hr6 ho6)
      clear hr6 ho6
      go_wp2_with fail
      go_roundw
      case rel => exact ⟨t + 1, _, HTL.out, by go_num, HL6, HM2⟩
      case measure => have := HTL.out; simp [intOf]; omega
     ·have htz : ¬ (t : Int) < (N : Int) := by omega
      have HRD := Lib.hid HL.out.rd
      have htn : t = rows.length := by have := HNR.out; omega
      rw [HM.out, htn, List.take_length, List.drop_length, List.append_nil, ← HLV.out] at HRD
      clear htl ht htn
      go_wp2_with fail
      go_ret2
      exact ⟨_, _, rfl, HEE.out.ext HL.out.ext, HX5.out.then HL.out.ext, .inr ⟨HF.out, HRD.out⟩⟩
set_option maxRecDepth 100000 in
set_option maxHeartbeats 2000000 in
theorem deep_any (w : World) (P : Nat → Addr) (l : List Rule) (v : Value) (hv : RdR w v l) (hs : ∀ r ∈ l, RuleSm 900000 r) (hV : PV w P [1, 2, 3, 4, 6, 8, 9]) :
  Calls Tryz.prog 46 #[v] w (fun e w' => ∃ ev, e = .returned (.tuple #[IN (if (orderFault l).1 = 0 then (levelsL l).length else 0), ev]) ∧ ErrAt w' P (orderFault l) ev ∧ Ext w w') := by
 have HLV := Lib.hid (levels_any w P l v hv hs hV)
 obtain ⟨a, cap, rfl, _, _, _⟩ := hv
 obtain ⟨n, hn⟩ : ∃ n, n = if (orderFault l).1 = 0 then (levelsL l).length else 0 := ⟨_, rfl⟩
 rw [← hn]
 have HN := Lib.hid hn
 clear hs hV hn
 go_enter Tryz.func46, Tryz.ntmps46
 go_wp2_with fail
 refine HLV.out.mono ?_
 rintro e w1 ⟨v1, ev, rfl, he, ho, hres⟩
 have HE := Lib.hid he
 have HX := Lib.hid ho
 obtain ⟨a1, c1, rfl⟩ : ∃ a1 c1, v1 = .slice a1 n c1 := by
  rcases hres with ⟨h, rfl⟩ | ⟨h, hr⟩
  ·rw [HN.out, if_neg h]; exact ⟨_, _, rfl⟩
  ·rw [HN.out, if_pos h]
   obtain ⟨a1, c1, h1, _⟩ := hr
   exact ⟨a1, c1, h1⟩
 clear he ho hres
 go_wp2_with fail
 go_ret2
 exact ⟨_, rfl, HE.out, HX.out⟩
end Go.Proofs.YtnmhaipjfpongacGreatDoor
