/- Texts of this seat laid together for one claim: Bm13. No condition of its own: what each proves stands with its theorems. -/
import Derived.Test.YtnmhaipjfpongacGreatDoorPR45
namespace Go.Proofs.YtnmhaipjfpongacGreatDoor
open Go.ChangeShapes Go.WideShapes Go.ChangeAt Go.RowKit

theorem wpNums {P : Program} (hP : P = Tryz.prog) {ops : Array Oper} {rest : List Oper} {o : Oper} {a : Act} {Q : Exit → Act → World → Prop} (s x : Operand) (base b2 : Nat) (v vk : Value) (l k : List Nat) (W : World) (hgd : o.guard = none)
  (ho : o.op = .call { callee := .builtin .append, args := #[s, x], argTypes := #[46, 46] }) (hs : a.eval s = v) (hx : a.eval x = vk) (hrow : RowI base W v l) (hk : RowI b2 W vk k) (hl : l.length + k.length ≤ 1000000) (hbase : base ≤ W.heap.size)
  (hK : ∀ v' w', Hid (RowI base w' v' (l ++ k)) → Hid (W.grownBy w' v.ownBlock) → Hid (∀ i, v'.ownBlock = some i → v.ownBlock = some i ∨ W.heap.size ≤ i) → wpList P ops Q rest (a.put o.dst v') w') :
  wpList P ops Q (o :: rest) a W := by
 subst hP
 have hf : ∀ q : List Nat, q.flatMap (fun k => [IN k]) = q.map IN := fun q => by induction q with
  | nil => rfl
  | cons x q ih => rw [List.flatMap_cons, List.map_cons, ih]; rfl
 have fin : ∀ ao m c, vk = .slice ao m c → m = k.length → ((ao = none ∧ k = [] ∧ c = 0) ∨ ∃ ad, ao = some ad ∧ ∀ j u, (k.flatMap fun k => [IN k])[j]? = some u → W.cell? (ad.add j) = some u) → wpList Tryz.prog ops Q (o :: rest) a W := fun ao m c hv hm hsrc =>
  wpList_appL (fun k : Nat => [IN k]) 46 3 1 8 _ infoInt Tryz.underlying46 rfl (by decide) (fun _ => rfl) (fun _ u hu => by cases List.mem_singleton.1 hu; rfl) (by decide) s x base v l k W hgd ho hs ao m c (by rw [hx, hv]) hm hsrc (by rw [hf]; exact hrow) hl hbase fun ao' m' cap w' _ h2 h3 h4 => by
   rw [hf] at h2
   exact hK _ w' (Lib.hid h2) (Lib.hid h3) (Lib.hid h4)
 rcases hk.cases with ⟨h1, rfl⟩ | ⟨g, cap, h1⟩
 ·exact fin none 0 0 h1 rfl (.inl ⟨rfl, rfl, rfl⟩)
 ·refine fin _ _ _ h1 rfl (.inr ⟨_, rfl, fun j u hu => ?_⟩)
  rw [hf, List.getElem?_map] at hu
  obtain ⟨y, hy, rfl⟩ := Option.map_eq_some_iff.1 hu
  obtain ⟨a', c', e, _, _, hc⟩ := hk.rd
  rw [h1] at e
  cases e
  obtain ⟨b, off, e2, hcell⟩ := hc (by intro h; rw [h] at hy; simp at hy)
  cases e2
  rw [addrAdd]
  exact hcell j y hy

theorem tmod_small (p : Int) {n : Nat} (hn : 0 < n) : -(n : Int) < p.tmod n ∧ p.tmod n < n := by
 rcases Int.le_total 0 p with hp | hp
 ·obtain ⟨k, rfl⟩ := Int.eq_ofNat_of_zero_le hp
  have e : ((k : Int)).tmod (n : Int) = ((k % n : Nat) : Int) := (Int.ofNat_tmod k n).symm
  have := Nat.mod_lt k hn
  rw [e]
  omega
 ·obtain ⟨k, hk⟩ := Int.eq_ofNat_of_zero_le (show 0 ≤ -p by omega)
  have hp2 : p = -(k : Int) := by omega
  subst hp2
  have e : (-(k : Int)).tmod (n : Int) = -((k % n : Nat) : Int) := by rw [Int.neg_tmod]; congr 1
  have := Nat.mod_lt k hn
  rw [e]
  omega
theorem pick_mod {p : Int} (h : In64 p) {n : Nat} : (p < -9223372036854775807 ∧ sizeP p % n = 0) ∨ (¬ p < -9223372036854775807 ∧ ((p.tmod n < 0 ∧ -(p.tmod n) = ((sizeP p % n : Nat) : Int)) ∨ (¬ p.tmod n < 0 ∧ p.tmod n = ((sizeP p % n : Nat) : Int)))) := by
 obtain ⟨h1, h2⟩ := h
 by_cases hm : p = -9223372036854775808
 ·left
  subst hm
  exact ⟨by decide, by rw [show sizeP (-9223372036854775808) = 0 from rfl, Nat.zero_mod]⟩
 ·right
  refine ⟨by omega, ?_⟩
  have hs : sizeP p = p.natAbs := if_neg hm
  rw [hs]
  rcases Int.le_total 0 p with hp | hp
  ·obtain ⟨k, rfl⟩ := Int.eq_ofNat_of_zero_le hp
   right
   have e : ((k : Int)).tmod (n : Int) = ((k % n : Nat) : Int) := (Int.ofNat_tmod k n).symm
   rw [e]
   exact ⟨by omega, by simp⟩
  ·obtain ⟨k, hk⟩ := Int.eq_ofNat_of_zero_le (show 0 ≤ -p by omega)
   have hp2 : p = -(k : Int) := by omega
   subst hp2
   have e : (-(k : Int)).tmod (n : Int) = -((k % n : Nat) : Int) := by rw [Int.neg_tmod]; congr 1
   rw [e]
   have e2 : (-(k : Int)).natAbs = k := by simp
   rw [e2]
   by_cases h0 : k % n = 0
   ·right
    rw [h0]
    exact ⟨by simp, by simp⟩
   ·left
    exact ⟨by omega, by omega⟩
section
variable {w0 w w' : World} {E : BE} {K : MK} {o : List Nat} {is : Nat → Bool} {cb lo : Nat} {cv : Value} {R : World → Prop} {x : BS × CS}
def RetPickM (w0 : World) (E : BE) (K : MK) (cb : Nat) (R : World → Prop) (picks : List Int) (x0 : BS × CS) (w : World) (e : Ending) (w' : World) : Prop :=
 ∃ v o1 o2 x1 y cv', e = .returned v ∧ RowI w.heap.size w' v (o1 ++ o2) ∧ MSt w0 E K cb R cv' y w' ∧ PicksTo E (·.1) (stepM E) picks x0 o1 x1 ∧ AllOut E (·.1) (stepM E) x1 o2 y
set_option maxRecDepth 100000 in
set_option maxHeartbeats 16000000 in
theorem pickOf_any (v : Value) (picks : List Int) (h : MSt w0 E K cb R cv x w) (hR : Beside K cb lo R) (hW : BWell E o is) (hL : BLens E) (hT : E.T.length ≤ 1000000) (hcb : w0.heap.size ≤ cb) (hcl : cb < w.heap.size) (hlo : lo ≤ w.heap.size) (hP : Rd I w0 v picks) (hp64 : ∀ p ∈ picks, In64 p) (hpl : picks.length ≤ 3000) :
  Calls Tryz.prog 66 #[PTR K.b, v] w (RetPickM w0 E K cb R picks x w) := by
 have H0 := Lib.hid h
 have HB := Lib.hid hR
 have HW := Lib.hid hW
 have HL := Lib.hid hL
 have HT := Lib.hid hT
 have HCB := Lib.hid hcb
 have H64 := Lib.hid hp64
 obtain ⟨a, cap, rfl, hcap, hm, hcp⟩ := hP
 have HC := Lib.hid hcp
 have hplz : (picks.length : Int) ≤ 3000 := by omega
 obtain ⟨ws, hws⟩ : ∃ ws, ws = w.heap.size := ⟨_, rfl⟩
 have HWS := Lib.hid hws
 have HCL : Hid (∀ i, InMA K i ∨ i = cb → i < ws) := Lib.hid (fun i hi => by
  rw [hws]
  rcases hi with e | e
  ·exact h.bld.lt i e
  ·omega)
 have HNP : Hid (∀ i, InM K i ∨ i = cb → i < ws) := Lib.hid (fun i hi => HCL.out i (hi.imp (fun e => .inr (.inr (.inr e))) id))
 have HLO : Hid (lo ≤ ws ∧ w0.heap.size ≤ ws) := Lib.hid ⟨by omega, by rw [hws]; exact h.bld.ext.size⟩
 have HCV0 : Hid (∀ i, cv.ownBlock = some i → (Value.slice none 0 0).ownBlock ≠ some i) := Lib.hid (fun i e e2 => by cases e2)
 clear h hR hW hL hT hcb hcl hws hlo hp64 hcap hm hcp
 go_enter Tryz.func66, Tryz.ntmps66
 go_wp2_with fail
 go_loopw [5, 6, 7, 8] (fun q i _ _ wr => ∃ (j : Nat) (y : BS × CS) (out : List Nat) (qv cv' : Value), qv = q ∧ j ≤ picks.length ∧ i = .int .i64 j ∧ Hid (MSt w0 E K cb R cv' y wr) ∧ Hid (RowI ws wr qv out) ∧ Hid (ws ≤ wr.heap.size) ∧ Hid (out.length ≤ ranN E y.1) ∧ Hid (∀ o' z, PicksTo E (·.1) (stepM E) (picks.drop j) y o' z → PicksTo E (·.1) (stepM E) picks x (out ++ o') z) ∧ Hid (∀ i, cv'.ownBlock = some i → qv.ownBlock ≠ some i)) (fun _ i _ _ _ => picks.length - (intOf i).toNat)
 case atStart => exact ⟨0, x, [], _, cv, rfl, Nat.zero_le _, rfl, H0, Lib.hid (RowI.nil _ _), Lib.hid (by rw [HWS.out]; exact Nat.le_refl _), Lib.hid (Nat.zero_le _), Lib.hid (fun o' z h => by simpa using h), HCV0⟩
 case round =>
  clear H0 HCV0
  obtain ⟨j, y, out, qv, cv', rfl, hj, rfl, HS, HR, HSZ, HLN, HTO, HCV⟩ := hrel
  by_cases hlt : j < picks.length
  ·have hltz : (j : Int) < (picks.length : Int) := by omega
   have hj0 : (0 : Int) ≤ (j : Int) := by omega
   have hj1 : ¬ (j : Int) < 0 := by omega
   have hj2 : ¬ (picks.length : Int) ≤ (j : Int) := by omega
   have hj3 : (j : Int) < 3000 := by omega
   obtain ⟨b, off, rfl, hcell⟩ := HC.out (by intro h; rw [h] at hlt; simp at hlt)
   obtain ⟨p, hp⟩ : ∃ y, picks[j]? = some y := ⟨_, List.getElem?_eq_getElem hlt⟩
   have HPC := Lib.hid (hcell j p hp)
   have HDR : Hid (picks.drop j = p :: picks.drop (j + 1)) := Lib.hid (by rw [List.drop_eq_getElem_cons hlt]; rw [(List.getElem?_eq_some_iff.1 hp).2])
   have HP64 := Lib.hid (H64.out p (List.mem_of_getElem? hp))
   have HLT := Lib.hid hlt
   have HRL := Lib.hid (readyLM_any HS.out.bld HW.out HS.out.inv)
   obtain ⟨rl, hrl⟩ : ∃ rl, rl = readyL E y.1 := ⟨_, rfl⟩
   rw [← hrl] at HRL
   have HRQ := Lib.hid hrl
   clear hcell hp hlt hrl
   go_wp2_with fail
   refine HRL.out.mono ?_
   rintro e w7 ⟨v7, rfl, hr7, ho7⟩
   have HS7 := Lib.hid (HS.out.grow HB.out ho7)
   have HR7 := Lib.hid (HR.out.ext ho7)
   have HSZ7 : Hid (ws ≤ w7.heap.size) := Lib.hid (Nat.le_trans HSZ.out ho7.size)
   have HQ7 : Hid (RowI wr.heap.size w7 v7 rl) := Lib.hid hr7
   have d0 := HS7.out.bld.ext.cellOf HPC.out (fun h => h)
   obtain ⟨a7, p7, rfl, _, _, hc7⟩ := hr7.rd
   have HC7 := Lib.hid hc7
   have hRl : rl.length ≤ 1000 := by
    rw [HRQ.out]
    have h1 := List.length_filter_le (readyP E y.1) E.sm
    have h2 := HL.out.few
    unfold readyL
    omega
   have hRlz : (rl.length : Int) ≤ 1000 := by omega
   clear hr7 ho7 hc7 HS HR HRL
   by_cases h0 : rl.length = 0
   ·have hlz : ((rl.length : Int) == 0) = true := by rw [h0]; rfl
    have HTO2 : Hid (∀ o' z, PicksTo E (·.1) (stepM E) (picks.drop (j + 1)) y o' z → PicksTo E (·.1) (stepM E) picks x (out ++ o') z) := Lib.hid (fun o' z h => HTO.out o' z (by
     rw [HDR.out]
     exact .skip (by show readyL E y.1 = []; rw [← HRQ.out]; exact List.eq_nil_of_length_eq_zero h0) h))
    clear h0
    go_wp2_with fail
    go_roundw
    case rel => exact ⟨j + 1, y, out, _, cv', rfl, HLT.out, by go_num, HS7, HR7, HSZ7, HLN, HTO2, HCV⟩
    case measure => have := HLT.out; simp [intOf]; omega
   ·have hlz : ((rl.length : Int) == 0) = false := beq_eq_false_iff_ne.2 (by omega)
    have hlzn : ¬ (rl.length : Int) = 0 := by omega
    obtain ⟨m, hm⟩ : ∃ m, m = sizeP p % rl.length := ⟨_, rfl⟩
    have hml : m < rl.length := by rw [hm]; exact Nat.mod_lt _ (by omega)
    have hmz : (m : Int) < (rl.length : Int) := by omega
    have hm0 : (0 : Int) ≤ (m : Int) := by omega
    have hm1 : ¬ (m : Int) < 0 := by omega
    have hm2 : ¬ (rl.length : Int) ≤ (m : Int) := by omega
    obtain ⟨b7, off7, rfl, hcell7⟩ := HC7.out (by intro h; rw [h] at h0; simp at h0)
    obtain ⟨k, hk⟩ : ∃ y, rl[m]? = some y := ⟨_, List.getElem?_eq_getElem hml⟩
    have d7 := hcell7 m k hk
    have HK := Lib.hid hk
    have hkr : k ∈ readyL E y.1 := by rw [← HRQ.out]; exact List.mem_of_getElem? hk
    obtain ⟨hkm, hkp⟩ := List.mem_filter.1 hkr
    have HTO2 : Hid (∀ o' z, PicksTo E (·.1) (stepM E) (picks.drop (j + 1)) (stepM E y k) o' z → PicksTo E (·.1) (stepM E) picks x ((out ++ [k]) ++ o') z) := Lib.hid (fun o' z h => by
     rw [List.append_assoc]
     refine HTO.out (k :: o') z ?_
     rw [HDR.out]
     exact .pick (by show (readyL E y.1)[sizeP p % (readyL E y.1).length]? = some k; rw [← HRQ.out, ← hm]; exact hk) h)
    have hran : ∀ t, ranP (stepM E y k).1 t = (decide (t = k) || ranP y.1 t) := (run_of (C := y.2) hkm hkp).2
    have HLN2 : Hid ((out ++ [k]).length ≤ ranN E (stepM E y k).1) := Lib.hid (by
     have := ranN_more HW.out.nodup hkm (ready_not_ran hkp) hran
     have := HLN.out
     rw [List.length_append]
     simp
     omega)
    have hrun := HS7.out.run HB.out HW.out HL.out HT.out HCB.out (by have := HCL.out cb (.inr rfl); have := HSZ7.out; omega) (k : Int)
    rw [(run_of (C := y.2) hkm hkp).1] at hrun
    generalize (runZ E y.2 y.1 (k : Int)).1.1 = bb at hrun
    have HRUN := Lib.hid hrun
    have HOL2 : Hid (out.length ≤ 1000000) := Lib.hid (by
     have := HLN.out
     have := ranN_le E y.1
     have := HL.out.few
     omega)
    have HPM := Lib.hid (pick_mod HP64.out (n := rl.length))
    rw [← hm] at HPM
    obtain ⟨q, hq⟩ : ∃ q, p.tmod (rl.length : Int) = q := ⟨_, rfl⟩
    rw [hq] at HPM
    have hov : -9223372036854775808 ≤ q ∧ q ≤ 9223372036854775807 := by
     have h1 := tmod_small p (n := rl.length) (by omega)
     rw [hq] at h1
     omega
    clear hcell7 hk hkr hkm hkp hran hrun hm hml h0 HTO
    rcases HPM.out with ⟨hpm, hm00⟩ | ⟨hpm, ⟨hqn, hqe⟩ | ⟨hqn, hqe⟩⟩
    ·subst hm00
     clear HPM
     rw [Nat.add_zero] at d7
     go_wp2_with fail
     refine HRUN.out.mono ?_
     rintro e w9 ⟨cv9, rfl, hs9, ho9, hn9⟩
     have HS9 : Hid (MSt w0 E K cb R cv9 (stepM E y k) w9) := Lib.hid hs9
     have HR9 : Hid (RowI ws w9 qv out) := Lib.hid (ho9.row HR7.out (fun i e hi => by have := HR7.out.base i e; have := HNP.out i hi; omega))
     have hq9 : RowI wr.heap.size w9 (.slice (some ⟨b7, off7, none⟩) rl.length p7) rl := ho9.row HQ7.out (fun i e hi => by have := HQ7.out.base i e; have := HNP.out i hi; have := HSZ.out; omega)
     have HSZ9 : Hid (ws ≤ w9.heap.size) := Lib.hid (Nat.le_trans HSZ7.out ho9.size)
     have HCV9 : Hid (∀ i, cv9.ownBlock = some i → qv.ownBlock ≠ some i) := Lib.hid (fun i e e3 => by
      rcases hn9 i e with e2 | e2
      ·exact HCV.out i e2 e3
      ·have h1 := (HR7.out.lt i e3).2
       omega)
     have HCL9 : Hid (∀ i, cv9.ownBlock = some i → i < w9.heap.size) := Lib.hid hs9.lt
     obtain ⟨a9, p9, hv9, _, _, hc9⟩ := hq9.rd
     cases hv9
     obtain ⟨b9, off9, hb9, hcell9⟩ := hc9 (by intro h; rw [h] at hmz; simp at hmz <;> omega)
     cases hb9
     have d9 := hcell9 0 k HK.out
     rw [Nat.add_zero] at d9
     clear hs9 ho9 hn9 d7 d0 hq9 hc9 hcell9 HRUN
     go_wp2_with (at_builtin; refine wpNum2 rfl (.tmp 46) (.tmp 51) ws _ out k w9 rfl rfl rfl rfl HR9.out HOL2.out HSZ9.out ?_; intro g5 cap5 w5 HR5 HG5 HA5; have ho5 := Only.of_grown HG5.out; have HS5 : Hid (MSt w0 E K cb R cv9 (stepM E y k) w5) := Lib.hid (HS9.out.other HB.out ho5 (fun i e => by have h1 := HR9.out.base i e; exact ⟨Nat.le_trans HLO.out.1 h1, Nat.le_trans HLO.out.2 h1, fun e2 => by have := HCL.out i (.inl e2); omega, fun e2 => by have := HCL.out i (.inr e2); omega, fun e2 => HCV9.out i e2 e⟩)); have HSZ5 : Hid (ws ≤ w5.heap.size) := Lib.hid (Nat.le_trans HSZ9.out ho5.size); have HCV5 : Hid (∀ i, cv9.ownBlock = some i → Value.ownBlock (.slice (some ⟨g5, 0, none⟩) (out.length + 1) cap5) ≠ some i) := Lib.hid (fun i e e2 => by (rcases HA5.out i e2 with e3 | e3); exact HCV9.out i e e3; have := HCL9.out i e; omega); clear ho5)
     go_roundw
     case rel => exact ⟨j + 1, stepM E y k, out ++ [k], _, cv9, rfl, HLT.out, by go_num, HS5, HR5, HSZ5, HLN2, HTO2, HCV5⟩
     case measure => have := HLT.out; simp [intOf]; omega
    ·have hqw : -q ≤ 9223372036854775807 := by omega
     clear HPM
     go_wp2_with fail
     refine HRUN.out.mono ?_
     rintro e w9 ⟨cv9, rfl, hs9, ho9, hn9⟩
     have HS9 : Hid (MSt w0 E K cb R cv9 (stepM E y k) w9) := Lib.hid hs9
     have HR9 : Hid (RowI ws w9 qv out) := Lib.hid (ho9.row HR7.out (fun i e hi => by have := HR7.out.base i e; have := HNP.out i hi; omega))
     have hq9 : RowI wr.heap.size w9 (.slice (some ⟨b7, off7, none⟩) rl.length p7) rl := ho9.row HQ7.out (fun i e hi => by have := HQ7.out.base i e; have := HNP.out i hi; have := HSZ.out; omega)
     have HSZ9 : Hid (ws ≤ w9.heap.size) := Lib.hid (Nat.le_trans HSZ7.out ho9.size)
     have HCV9 : Hid (∀ i, cv9.ownBlock = some i → qv.ownBlock ≠ some i) := Lib.hid (fun i e e3 => by
      rcases hn9 i e with e2 | e2
      ·exact HCV.out i e2 e3
      ·have h1 := (HR7.out.lt i e3).2
       omega)
     have HCL9 : Hid (∀ i, cv9.ownBlock = some i → i < w9.heap.size) := Lib.hid hs9.lt
     obtain ⟨a9, p9, hv9, _, _, hc9⟩ := hq9.rd
     cases hv9
     obtain ⟨b9, off9, hb9, hcell9⟩ := hc9 (by intro h; rw [h] at hmz; simp at hmz <;> omega)
     cases hb9
     have d9 := hcell9 m k HK.out
     clear hs9 ho9 hn9 d7 d0 hq9 hc9 hcell9 HRUN
     go_wp2_with (at_builtin; refine wpNum2 rfl (.tmp 46) (.tmp 51) ws _ out k w9 rfl rfl rfl rfl HR9.out HOL2.out HSZ9.out ?_; intro g5 cap5 w5 HR5 HG5 HA5; have ho5 := Only.of_grown HG5.out; have HS5 : Hid (MSt w0 E K cb R cv9 (stepM E y k) w5) := Lib.hid (HS9.out.other HB.out ho5 (fun i e => by have h1 := HR9.out.base i e; exact ⟨Nat.le_trans HLO.out.1 h1, Nat.le_trans HLO.out.2 h1, fun e2 => by have := HCL.out i (.inl e2); omega, fun e2 => by have := HCL.out i (.inr e2); omega, fun e2 => HCV9.out i e2 e⟩)); have HSZ5 : Hid (ws ≤ w5.heap.size) := Lib.hid (Nat.le_trans HSZ9.out ho5.size); have HCV5 : Hid (∀ i, cv9.ownBlock = some i → Value.ownBlock (.slice (some ⟨g5, 0, none⟩) (out.length + 1) cap5) ≠ some i) := Lib.hid (fun i e e2 => by (rcases HA5.out i e2 with e3 | e3); exact HCV9.out i e e3; have := HCL9.out i e; omega); clear ho5)
     go_roundw
     case rel => exact ⟨j + 1, stepM E y k, out ++ [k], _, cv9, rfl, HLT.out, by go_num, HS5, HR5, HSZ5, HLN2, HTO2, HCV5⟩
     case measure => have := HLT.out; simp [intOf]; omega
    ·subst hqe
     clear HPM
     go_wp2_with fail
     refine HRUN.out.mono ?_
     rintro e w9 ⟨cv9, rfl, hs9, ho9, hn9⟩
     have HS9 : Hid (MSt w0 E K cb R cv9 (stepM E y k) w9) := Lib.hid hs9
     have HR9 : Hid (RowI ws w9 qv out) := Lib.hid (ho9.row HR7.out (fun i e hi => by have := HR7.out.base i e; have := HNP.out i hi; omega))
     have hq9 : RowI wr.heap.size w9 (.slice (some ⟨b7, off7, none⟩) rl.length p7) rl := ho9.row HQ7.out (fun i e hi => by have := HQ7.out.base i e; have := HNP.out i hi; have := HSZ.out; omega)
     have HSZ9 : Hid (ws ≤ w9.heap.size) := Lib.hid (Nat.le_trans HSZ7.out ho9.size)
     have HCV9 : Hid (∀ i, cv9.ownBlock = some i → qv.ownBlock ≠ some i) := Lib.hid (fun i e e3 => by
      rcases hn9 i e with e2 | e2
      ·exact HCV.out i e2 e3
      ·have h1 := (HR7.out.lt i e3).2
       omega)
     have HCL9 : Hid (∀ i, cv9.ownBlock = some i → i < w9.heap.size) := Lib.hid hs9.lt
     obtain ⟨a9, p9, hv9, _, _, hc9⟩ := hq9.rd
     cases hv9
     obtain ⟨b9, off9, hb9, hcell9⟩ := hc9 (by intro h; rw [h] at hmz; simp at hmz <;> omega)
     cases hb9
     have d9 := hcell9 m k HK.out
     clear hs9 ho9 hn9 d7 d0 hq9 hc9 hcell9 HRUN
     go_wp2_with (at_builtin; refine wpNum2 rfl (.tmp 46) (.tmp 51) ws _ out k w9 rfl rfl rfl rfl HR9.out HOL2.out HSZ9.out ?_; intro g5 cap5 w5 HR5 HG5 HA5; have ho5 := Only.of_grown HG5.out; have HS5 : Hid (MSt w0 E K cb R cv9 (stepM E y k) w5) := Lib.hid (HS9.out.other HB.out ho5 (fun i e => by have h1 := HR9.out.base i e; exact ⟨Nat.le_trans HLO.out.1 h1, Nat.le_trans HLO.out.2 h1, fun e2 => by have := HCL.out i (.inl e2); omega, fun e2 => by have := HCL.out i (.inr e2); omega, fun e2 => HCV9.out i e2 e⟩)); have HSZ5 : Hid (ws ≤ w5.heap.size) := Lib.hid (Nat.le_trans HSZ9.out ho5.size); have HCV5 : Hid (∀ i, cv9.ownBlock = some i → Value.ownBlock (.slice (some ⟨g5, 0, none⟩) (out.length + 1) cap5) ≠ some i) := Lib.hid (fun i e e2 => by (rcases HA5.out i e2 with e3 | e3); exact HCV9.out i e e3; have := HCL9.out i e; omega); clear ho5)
     go_roundw
     case rel => exact ⟨j + 1, stepM E y k, out ++ [k], _, cv9, rfl, HLT.out, by go_num, HS5, HR5, HSZ5, HLN2, HTO2, HCV5⟩
     case measure => have := HLT.out; simp [intOf]; omega
  ·have hltz : ¬ (j : Int) < (picks.length : Int) := by omega
   have HP1 : Hid (PicksTo E (·.1) (stepM E) picks x out y) := Lib.hid (by
    have h := HTO.out [] y (by rw [List.drop_of_length_le (by omega)]; exact .nil y)
    simpa using h)
   have HALL := Lib.hid (allM_any HS.out HB.out HW.out HL.out HT.out HCB.out (by have := HCL.out cb (.inr rfl); have := HSZ.out; omega) (Nat.le_trans HLO.out.1 HSZ.out))
   have hol : out.length ≤ 1000 := by
    have := HLN.out
    have := ranN_le E y.1
    have := HL.out.few
    omega
   have HOL := Lib.hid hol
   clear hlt hj HTO hol
   go_wp2_with fail
   refine HALL.out.mono ?_
   rintro e w7 ⟨v7, o2, z, cv7, rfl, hr7, hs7, ha7, ho7, hl7, hn7⟩
   have HS7 := Lib.hid hs7
   have HR7 : Hid (RowI ws w7 qv out) := Lib.hid (ho7.row HR.out (fun i e hi => by have := HR.out.base i e; have := HNP.out i hi; omega))
   have HQ7 := Lib.hid hr7
   have HSZ7 : Hid (ws ≤ w7.heap.size) := Lib.hid (Nat.le_trans HSZ.out ho7.size)
   have HAO := Lib.hid ha7
   have HL7 : Hid (out.length + o2.length ≤ 1000000) := Lib.hid (by have := HOL.out; omega)
   have HCV7 : Hid (∀ i, cv7.ownBlock = some i → qv.ownBlock ≠ some i) := Lib.hid (fun i e e3 => by
    rcases (hn7 i e).2 with e2 | e2
    ·exact HCV.out i e2 e3
    ·have h1 := (HR.out.lt i e3).2
     omega)
   clear hr7 hs7 ha7 ho7 hl7 hn7
   go_wp2_with (at_builtin; refine wpNums rfl (.tmp 53) (.tmp 55) ws _ _ _ out o2 w7 rfl rfl rfl rfl HR7.out HQ7.out HL7.out HSZ7.out ?_; intro v5 w5 HR5 HG5 HA5; have ho5 := Only.of_grown HG5.out; have HS5 : Hid (MSt w0 E K cb R cv7 z w5) := Lib.hid (HS7.out.other HB.out ho5 (fun i e => by have h1 := HR7.out.base i e; exact ⟨Nat.le_trans HLO.out.1 h1, Nat.le_trans HLO.out.2 h1, fun e2 => by have := HCL.out i (.inl e2); omega, fun e2 => by have := HCL.out i (.inr e2); omega, fun e2 => HCV7.out i e2 e⟩)); clear ho5)
   go_ret
   rw [HWS.out] at HR5
   exact ⟨v5, out, o2, y, z, cv7, rfl, HR5.out, HS5.out, HP1.out, HAO.out⟩
end
end Go.Proofs.YtnmhaipjfpongacGreatDoor
