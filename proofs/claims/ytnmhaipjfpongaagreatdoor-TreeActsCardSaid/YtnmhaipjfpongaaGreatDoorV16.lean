/- TreeActs' walk: package tree and the model side by side. No condition but lengths, and what the variables hold.  -/
import Derived.Test.YtnmhaipjfpongaaGreatDoorV15
import Derived.Test.YtnmhaipjfpongaaGreatDoorO1
import Derived.Deep.RegionHeld3
import Derived.Deep.DeepCutAuto
import Derived.Deep.LoopGhost
import Derived.Deep.CutBlock
namespace Go.Proofs.YtnmhaipjfpongaaGreatDoor
open Go.ChangeShapes Go.WideShapes Go.ChangeAt Go.RowKit



set_option maxHeartbeats 4000000 in
set_option maxRecDepth 100000 in
theorem acts_long (w : World) (P : Nat → Addr) (hs : Sents w P) (hm : HasMax w) (hp : Pow w) (a : Option Addr) (len cap : Nat) (h : 80 < len) (hlen : len ≤ 9223372036854775807) :
    Calls Tryz.prog 4 #[.slice a len cap] w fun e w' => e = .returned (.bool true) ∧ Ext w w' := by
  have h3 : 80 < (len : Int) := by omega
  have HT := Lib.hid (treed_any w P hs hm hp)
  clear h hs hm hp
  go_enter Tryz.func4, Tryz.ntmps4
  go_wp2_with fail
  refine HT.out.mono ?_
  rintro e w1 ⟨rfl, ho⟩
  have HO := Lib.hid ho
  clear ho
  go_wp2_with fail
  go_ret
  exact ⟨rfl, HO.out⟩

set_option maxHeartbeats 8000000 in
set_option maxRecDepth 100000 in
theorem walkTreeActs (w : World) (v : Value) (l : List (B × B × B)) (P : Nat → Addr) (hv : RdS 3 encA w v l) (hl : l.length ≤ 80) (hx : ∀ a ∈ l, a.2.2.length ≤ 140737488351232) (hs : Sents w P) (hm : HasMax w) (hp : Pow w) :
    Calls Tryz.prog 4 #[v] w fun e w' => e = .returned (.bool true) ∧ Ext w w' := by
  obtain ⟨a, cap, rfl, hcap, hml, hc⟩ := hv
  have hx3 : ¬ (80 < (l.length : Int)) := by omega
  have HC := Lib.hid hc
  have HX := Lib.hid hx
  have HS := Lib.hid hs
  have HMX := Lib.hid hm
  have HPW := Lib.hid hp
  clear hc hml hx hs hm hp hcap
  go_enter Tryz.func4, Tryz.ntmps4
  go_wp2_with fail
  refine (treed_any w P HS.out HMX.out HPW.out).mono ?_
  rintro e w1 ⟨rfl, hw1⟩
  have HW1 := Lib.hid hw1
  clear hw1
  go_wp2_with fail
  refine (treeNew_any w1).mono ?_
  rintro e w2 ⟨rfl, ht, ho, hsz⟩
  have I0 : TT w (w2.alloc (.cells #[.slice none 0 0] 45 (0, 0))) (w1.heap.size + 1) w1.heap.size w2.heap.size (.slice none 0 0) [] [] := by
    have h12 := HW1.out.ext ho
    have s1 := HW1.out.size
    exact ⟨h12.thenAlloc _, by omega, s1, h12.size, ht.ext (Only.alloc _ _ _), ⟨(MapKept.heap_alloc w2 _).1, World.ownsRow_nil _ _ _ _⟩⟩
  have HI := Lib.hid I0
  clear I0 ht ho hsz HW1
  obtain ⟨b, hb⟩ : ∃ b, b = w1.heap.size + 1 := ⟨_, rfl⟩
  obtain ⟨mb, hmb⟩ : ∃ mb, mb = w1.heap.size := ⟨_, rfl⟩
  rw [← hb, ← hmb] at HI
  rw [← hb]
  clear hb hmb
  go_wp2_with fail
  generalize (w2.alloc (.cells #[.slice none 0 0] 45 (0, 0))) = w3 at HI ⊢
  generalize w2.heap.size = m at HI ⊢
  go_loopg [6, 7] l.length (fun g n i wr => ∃ (k : Nat) (nn : Int) (slv : Value) (L : FL), k + g = l.length ∧ i = .int .i64 k ∧ n = .int .i64 nn ∧ 0 ≤ nn ∧ nn ≤ 10000 ∧ Hid (TT w wr b mb m slv L L) ∧ Hid (Fits L) ∧ Hid (∀ q ∈ L, q.1.length ≤ 1000))
  case atStart => exact ⟨0, 0, _, [], Nat.zero_add _, rfl, rfl, by omega, by omega, HI, Lib.hid Fits.nil, Lib.hid (by simp)⟩
  case round =>
    clear HI
    obtain ⟨k, nn, slv, L, hk, rfl, rfl, hn0, hn1, HI, HFI, HLN⟩ := hrel
    by_cases hlt : k < l.length
    · have hltz : (k : Int) < (l.length : Int) := by omega
      obtain ⟨b0, off0, rfl, hcell⟩ := HC.out (by intro h; rw [h] at hlt; simp at hlt)
      obtain ⟨⟨kd, p, x⟩, hxk⟩ : ∃ y, l[k]? = some y := ⟨_, List.getElem?_eq_getElem hlt⟩
      have d0 : wr.cell? ⟨b0, off0 + k * 3, none⟩ = some (S kd) := HI.out.ext.cellOf (hcell k _ hxk 0 _ rfl) (fun h => h)
      have d1 : wr.cell? ⟨b0, off0 + k * 3 + 1, none⟩ = some (S p) := HI.out.ext.cellOf (hcell k _ hxk 1 _ rfl) (fun h => h)
      have d2 : wr.cell? ⟨b0, off0 + k * 3 + 2, none⟩ = some (S x) := HI.out.ext.cellOf (hcell k _ hxk 2 _ rfl) (fun h => h)
      have hxl : x.length ≤ 140737488351232 := HX.out _ (List.mem_of_getElem? hxk)
      clear hcell hxk
      by_cases hk1 : 100 < p.length
      · have hk1z : decide ((100 : Int) < (p.length : Int)) = true := decide_eq_true (by omega)
        clear hk1
        go_wp2_with fail
        go_ret
        exact ⟨rfl, HI.out.ext.thenAlloc _⟩
      have hk1z : decide ((100 : Int) < (p.length : Int)) = false := decide_eq_false (by omega)
      by_cases hk2 : 10000 < nn + x.length
      · go_wp2_with fail
        go_ret
        exact ⟨rfl, HI.out.ext.thenAlloc _⟩
      have IA : TA 47 w (wr.alloc (.cells #[S kd, S p, S x] 47 (0, 0))) b mb m slv L L wr.heap.size #[S kd, S p, S x] := ⟨HI.out.later (Only.alloc _ _ _), (MapKept.heap_alloc wr _).1⟩
      have HIA := Lib.hid IA
      have HPL : Hid (p.length ≤ 999999) := Lib.hid (by omega)
      have HPL1 : Hid (p.length ≤ 1000) := Lib.hid (by omega)
      clear IA HI hk1
      go_upto_block 2 with fail
      generalize (wr.alloc (.cells #[S kd, S p, S x] 47 (0, 0))) = wa at HIA ⊢
      generalize wr.heap.size = ha at HIA ⊢
      have a1 := HIA.out.at (j := 1) (u := S p) rfl
      have a2 := HIA.out.at (j := 2) (u := S x) rfl
      go_cut [] (fun wx => ∃ (slvz : Value) (LL : FL), Hid (TA 47 w wx b mb m slvz LL LL ha #[S kd, S p, S x]) ∧ Hid (Fits LL) ∧ Hid (∀ q ∈ LL, q.1.length ≤ 1000))
      case first =>
        cases hkp : (kd == [112, 117, 116]) with
        | true =>
          have HFZ := Lib.hid (HFI.out.put p x)
          have HLZ := Lib.hid (lens_put HFI.out.rising HLN.out p x HPL1.out)
          have HPC := Lib.hid (putCode_le L p x)
          go_wp2_with fail
          clear hkp
          go_region_held3 (fun w' => w'.cell? ⟨ha, 1, none⟩ = some (S p) ∧ w'.cell? ⟨ha, 2, none⟩ = some (S x)) (first | exact ⟨m1, m2⟩ | exact ⟨t1, t2⟩ | exact ⟨z1, z2⟩ | exact ⟨a1, a2⟩ | go_keep) (first
            | (go_at_call 17; refine (TA.put (by first | exact HM.out | exact HM.out.later (Only.drew _ _) | exact HIA.out | exact HIA.out.later (Only.drew _ _) | exact HIA.out.later (Only.drewN _ _ _)) (by first | exact HFI.out) HS.out HMX.out HLN.out p x HPL.out).mono ?_; rintro e w5 ⟨rfl, hT⟩; have HT := Lib.hid hT; have t1 := HT.out.at (j := 1) (u := S p) rfl; have t2 := HT.out.at (j := 2) (u := S x) rfl; clear hT)
            | (go_at_call 18; refine (TA.putM (e := 47) (by decide) (by decide) (by first | exact HT.out | exact HT.out.later (Only.drew _ _) | exact HIA.out | exact HIA.out.later (Only.drew _ _) | exact HIA.out.later (Only.drewN _ _ _)) HFI.out p x HPL.out).mono ?_; rintro e w6 ⟨slv6, rfl, hM⟩; have HM := Lib.hid hM; have m1 := HM.out.at (j := 1) (u := S p) rfl; have m2 := HM.out.at (j := 2) (u := S x) rfl; clear hM)
            | (go_at_call 16; refine (codedC _ P (HS.out.ext (by first | exact HM.out.tt.ext | exact HT.out.tt.ext)) _ HPC.out).mono ?_; rintro e w7 ⟨rfl, ho⟩; obtain ⟨slvz, HZ⟩ : ∃ slv', Hid (TA 47 w w7 b mb m slv' (putT L p x) (putT L p x) ha #[S kd, S p, S x]) := (by first | exact ⟨_, Lib.hid (HM.out.later ho)⟩ | exact ⟨_, Lib.hid (HT.out.later ho)⟩); have z1 := HZ.out.at (j := 1) (u := S p) rfl; have z2 := HZ.out.at (j := 2) (u := S x) rfl))
          all_goals
            go_wp2_with fail
            go_meet
            exact ⟨slvz, _, HZ, HFZ, HLZ⟩
        | false =>
          cases hkr : (kd == [114, 101, 109, 111, 118, 101]) with
          | true =>
            have HFZ := Lib.hid (HFI.out.del p)
            have HLZ := Lib.hid (lens_del HLN.out p)
            have HPC := Lib.hid (remCode_le L p)
            go_wp2_with fail
            clear hkp hkr
            go_region_held3 (fun w' => w'.cell? ⟨ha, 1, none⟩ = some (S p) ∧ w'.cell? ⟨ha, 2, none⟩ = some (S x)) (first | exact ⟨m1, m2⟩ | exact ⟨t1, t2⟩ | exact ⟨z1, z2⟩ | exact ⟨a1, a2⟩ | go_keep) (first
              | (go_at_call 19; refine (TA.remove (by first | exact HM.out | exact HM.out.later (Only.drew _ _) | exact HIA.out | exact HIA.out.later (Only.drew _ _) | exact HIA.out.later (Only.drewN _ _ _)) HS.out p).mono ?_; rintro e w5 ⟨rfl, hT⟩; have HT := Lib.hid hT; have t1 := HT.out.at (j := 1) (u := S p) rfl; have t2 := HT.out.at (j := 2) (u := S x) rfl; clear hT)
              | (go_at_call 20; refine (TA.removeM (e := 47) (by decide) (by decide) (by first | exact HT.out | exact HT.out.later (Only.drew _ _) | exact HIA.out | exact HIA.out.later (Only.drew _ _) | exact HIA.out.later (Only.drewN _ _ _)) HFI.out p).mono ?_; rintro e w6 ⟨slv6, rfl, hM⟩; have HM := Lib.hid hM; have m1 := HM.out.at (j := 1) (u := S p) rfl; have m2 := HM.out.at (j := 2) (u := S x) rfl; clear hM)
              | (go_at_call 16; refine (codedC _ P (HS.out.ext (by first | exact HM.out.tt.ext | exact HT.out.tt.ext)) _ HPC.out).mono ?_; rintro e w7 ⟨rfl, ho⟩; obtain ⟨slvz, HZ⟩ : ∃ slv', Hid (TA 47 w w7 b mb m slv' (delT L p) (delT L p) ha #[S kd, S p, S x]) := (by first | exact ⟨_, Lib.hid (HM.out.later ho)⟩ | exact ⟨_, Lib.hid (HT.out.later ho)⟩); have z1 := HZ.out.at (j := 1) (u := S p) rfl; have z2 := HZ.out.at (j := 2) (u := S x) rfl))
            all_goals
              go_wp2_with fail
              go_meet
              exact ⟨slvz, _, HZ, HFZ, HLZ⟩
          | false =>
            go_wp2_with fail
            clear hkp hkr
            have hmax := HMX.out.ext HIA.out.tt.ext
            have hsen := HS.out.ext HIA.out.tt.ext
            cases hmo : matchOk p [97] with
            | false =>
              have hg := glob_bad wa b p P hsen hmax HPL.out hmo
              have hr : ∀ w1, Calls Tryz.prog 22 #[S p, S [97]] w1 (fun e w' => e = .returned (.tuple #[.bool false, I 4]) ∧ Ext w1 w') := fun w1 => by
                have := refMatch_any w1 p [97] (by have := HPL1.out; omega) (by decide)
                unfold RefMatchIs at this
                rw [hmo] at this
                simpa using this
              have hcd : ∀ w1, Ext w w1 → Calls Tryz.prog 16 #[errV (P 3), I 4] w1 (fun e w' => e = .returned (.bool true) ∧ Ext w1 w') := fun w1 h => codedC w1 P (HS.out.ext h) 4 (by decide)
              have HG := Lib.hid hg
              have HR := Lib.hid hr
              have HCD := Lib.hid hcd
              obtain ⟨am, capm, rfl, _, _, hcm⟩ := HIA.out.tt.model.rd
              clear hg hr hcd hmo hmax hsen hcm
              refine HG.out.mono ?_
              rintro e w2 ⟨vg, rfl, hrd, ho⟩
              have HI2 := Lib.hid (HIA.out.later ho)
              have HRD := Lib.hid hrd
              have e1 := HI2.out.at (j := 1) (u := S p) rfl
              clear ho hrd
              go_wp2_with fail
              refine (HR.out w2).mono ?_
              rintro e w3 ⟨rfl, ho⟩
              have HI3 := Lib.hid (HI2.out.later ho)
              have HRD3 := Lib.hid (HRD.out.ext ho)
              have f1 : w3.cell? ⟨m, 0, none⟩ = some (.slice am L.length capm) := (cell_of_heap HI3.out.tt.model.cells 0).trans rfl
              clear ho
              go_wp2_with fail
              go_loopg [13, 14, 15, 16] 0 (fun g o i x y wq => o = .slice none 0 0 ∧ i = .int .i64 0 ∧ wq = w3)
              case atStart => exact ⟨rfl, rfl, rfl⟩
              case round =>
                obtain ⟨rfl, rfl, rfl⟩ := hrel
                have h44 : ((4 : Int) == 0) = false := by decide
                by_cases hL0 : 0 < L.length
                · have hLz : decide ((0 : Int) < (L.length : Int)) = true := decide_eq_true (by omega)
                  have hLp : (0 : Int) < (L.length : Int) := by omega
                  go_wp2_with fail
                  refine (HCD.out _ HI3.out.tt.ext).mono ?_
                  rintro e w4 ⟨rfl, ho⟩
                  have HI4 := Lib.hid (HI3.out.later ho)
                  have HRD4 := Lib.hid (HRD3.out.ext ho)
                  clear ho
                  go_wp2_with fail
                  refine (sameTexts_any _ _ _ _ _ HRD4.out (Rd.nil S _)).mono ?_
                  rintro e w5 ⟨rfl, hd⟩
                  have HI5 := Lib.hid (HI4.out.later hd.ext)
                  clear hd
                  go_wp2_with fail
                  go_meet
                  exact ⟨_, _, HI5, HFI, HLN⟩
                · have hLz : decide ((0 : Int) < (L.length : Int)) = false := decide_eq_false (by omega)
                  have hLp : ¬ (0 : Int) < (L.length : Int) := by omega
                  go_wp2_with fail
                  refine (HCD.out _ HI3.out.tt.ext).mono ?_
                  rintro e w4 ⟨rfl, ho⟩
                  have HI4 := Lib.hid (HI3.out.later ho)
                  have HRD4 := Lib.hid (HRD3.out.ext ho)
                  clear ho
                  go_wp2_with fail
                  refine (sameTexts_any _ _ _ _ _ HRD4.out (Rd.nil S _)).mono ?_
                  rintro e w5 ⟨rfl, hd⟩
                  have HI5 := Lib.hid (HI4.out.later hd.ext)
                  clear hd
                  go_wp2_with fail
                  go_meet
                  exact ⟨_, _, HI5, HFI, HLN⟩
            | true =>
              have hokL : ∀ q ∈ L, matchOk p q.1 = true := fun q hq => by
                unfold matchOk at hmo ⊢
                rw [HFI.out.path q hq]
                simp at hmo ⊢
                exact hmo.1
              have hg := glob_ok wa b mb L p P HIA.out.tt.tree HFI.out.rising HLN.out HFI.out.few hsen hmax HPL.out hmo hokL
              have hr : ∀ w1, Calls Tryz.prog 22 #[S p, S [97]] w1 (fun e w' => ∃ r, e = .returned (.tuple #[.bool r, I 0]) ∧ Ext w1 w') := fun w1 => by
                have := refMatch_any w1 p [97] (by have := HPL1.out; omega) (by decide)
                unfold RefMatchIs at this
                rw [hmo] at this
                exact this.mono fun e w' h => ⟨_, h⟩
              have hrq : ∀ w1, ∀ q ∈ L, Calls Tryz.prog 22 #[S p, S q.1] w1 (fun e w' => e = .returned (.tuple #[.bool (fitT p q.1), I 0]) ∧ Ext w1 w') := fun w1 q hq => by
                have := refMatch_any w1 p q.1 (by have := HPL1.out; omega) (by have := HLN.out q hq; omega)
                unfold RefMatchIs at this
                rw [hokL q hq] at this
                have e1 : fitT p q.1 = fitsB (cut p) (cut q.1) := by unfold fitT; rw [hokL q hq]; rfl
                rw [e1]
                simpa using this
              have HG := Lib.hid hg
              have HR := Lib.hid hr
              have HRQ := Lib.hid hrq
              have hfew := HFI.out.few
              obtain ⟨am, capm, rfl, _, _, hcm⟩ := HIA.out.tt.model.rd
              have HCM := Lib.hid hcm
              clear hg hr hrq hmo hmax hsen hcm hokL
              refine HG.out.mono ?_
              rintro e w2 ⟨vg, rfl, hrd, ho⟩
              have HI2 := Lib.hid (HIA.out.later ho)
              have HRD := Lib.hid hrd
              have e1 := HI2.out.at (j := 1) (u := S p) rfl
              have HO2 := Lib.hid ho
              clear ho hrd
              go_wp2_with fail
              refine (HR.out w2).mono ?_
              rintro e w3 ⟨r0, rfl, ho⟩
              have HI3 := Lib.hid (HI2.out.later ho)
              have HRD3 := Lib.hid (HRD.out.ext ho)
              have HO3 := Lib.hid (HO2.out.then ho)
              clear ho
              go_wp2_with fail
              go_loopg [13, 14, 15, 16] L.length (fun g o i x y wq => ∃ j : Nat, j + g = L.length ∧ i = .int .i64 j ∧ Hid (Ext w3 wq) ∧ Hid (wq.ownsRow w3.heap.size 9 1 o (((L.take j).map (·.1)).filter (fitT p)).length ((((L.take j).map (·.1)).filter (fitT p)).flatMap fun s => [S s])))
              case atStart => exact ⟨0, Nat.zero_add _, rfl, Lib.hid (Only.refl _ _), Lib.hid (World.ownsRow_nil _ _ _ _)⟩
              case round =>
                obtain ⟨j, hj, rfl, HXQ, HRQW⟩ := hrel
                obtain ⟨wq, hwq⟩ : ∃ wq : World, wq = wr := ⟨_, rfl⟩
                have HI4 := Lib.hid (HI3.out.later HXQ.out)
                have f0 : wr.cell? ⟨m, 0, none⟩ = some (.slice am L.length capm) := (cell_of_heap HI4.out.tt.model.cells 0).trans rfl
                have f1 := HI4.out.at (j := 1) (u := S p) rfl
                by_cases hlt2 : j < L.length
                · have hltz2 : decide ((j : Int) < (L.length : Int)) = true := decide_eq_true (by omega)
                  have hltp2 : (j : Int) < (L.length : Int) := by omega
                  obtain ⟨bb, off, rfl, hcell⟩ := HCM.out (by intro h; rw [h] at hlt2; simp at hlt2)
                  obtain ⟨⟨pp, xx⟩, hq⟩ : ∃ y, L[j]? = some y := ⟨_, List.getElem?_eq_getElem hlt2⟩
                  have f2 : wr.cell? ⟨bb, off + j * 2, none⟩ = some (S pp) := (HO3.out.then HXQ.out).cellOf (hcell j _ hq 0 _ rfl) (fun h => h)
                  have hmem := List.mem_of_getElem? hq
                  have HM1 := Lib.hid (fun w1 => HRQ.out w1 _ hmem)
                  have hstep : ((L.take (j + 1)).map (·.1)).filter (fitT p) = ((L.take j).map (·.1)).filter (fitT p) ++ if fitT p pp then [pp] else [] := by
                    rw [List.take_add_one, hq]
                    cases hf : fitT p pp <;> simp [hf]
                  have HST := Lib.hid hstep
                  have hgl : (((L.take j).map (·.1)).filter (fitT p)).length ≤ 1000000 := by
                    have := List.length_filter_le (fitT p) ((L.take j).map (·.1))
                    rw [List.length_map, List.length_take] at this
                    omega
                  obtain ⟨G, hG⟩ : ∃ G, Hid (G = ((L.take j).map (·.1)).filter (fitT p)) := ⟨_, Lib.hid rfl⟩
                  rw [← hG.out] at HRQW HST hgl
                  clear hcell hq hmem hstep hlt2 hwq
                  cases hf : fitT p pp
                  all_goals
                    rw [hf] at HM1 HST
                    clear hf
                    go_wp2_with fail
                    go_region_held3 (fun w' => w'.cell? ⟨ha, 1, none⟩ = some (S p) ∧ w'.cell? ⟨m, 0, none⟩ = some (.slice (some ⟨bb, off, none⟩) L.length capm) ∧ w'.cell? ⟨bb, off + j * 2, none⟩ = some (S pp)) (first | exact ⟨g1, g0, g2⟩ | exact ⟨f1, f0, f2⟩ | go_keep) (first
                      | (go_at_call 22; refine (HM1.out _).mono ?_; rintro e w5 ⟨rfl, ho⟩; have HX5 := Lib.hid (HXQ.out.ext (Only.then (by first | exact Only.refl _ _ | exact Only.drew _ _ | exact Only.drewN _ _ _) ho)); have HR5 := Lib.hid (Only.row (Only.then (by first | exact Only.refl _ _ | exact Only.drew _ _ | exact Only.drewN _ _ _) ho) HRQW.out (fun _ _ h => h)); have g0 : w5.cell? ⟨m, 0, none⟩ = some (.slice (some ⟨bb, off, none⟩) L.length capm) := (Only.then (by first | exact Only.refl _ _ | exact Only.drew _ _ | exact Only.drewN _ _ _) ho).cellOf f0 (fun h => h); have g1 : w5.cell? ⟨ha, 1, none⟩ = some (S p) := (Only.then (by first | exact Only.refl _ _ | exact Only.drew _ _ | exact Only.drewN _ _ _) ho).cellOf f1 (fun h => h); have g2 : w5.cell? ⟨bb, off + j * 2, none⟩ = some (S pp) := (Only.then (by first | exact Only.refl _ _ | exact Only.drew _ _ | exact Only.drewN _ _ _) ho).cellOf f2 (fun h => h); clear ho))
                  · go_wp2_with fail
                    go_roundg (L.length - (j + 1))
                    case measure => omega
                    case rel => exact ⟨j + 1, by omega, by go_num, HX5, Lib.hid (by rw [HST.out]; simpa using HR5.out)⟩
                  · go_wp2_with (at_builtin; refine wpList_appS (fun s => [S s]) 25 9 1 16 _ infoStr Tryz.underlying25 rfl (by decide) (fun _ => rfl) (fun _ u hu => by cases List.mem_singleton.1 hu; rfl) (by decide) _ _ w3.heap.size _ G pp _ _ rfl rfl rfl rfl rfl HR5.out hgl HX5.out.size ?_; intro g5 cap5 w6 ho5 hg5 ha5; have b5 : Ext w3 w6 := grown_baseT HX5.out (row_geT HR5.out) hg5; have HX6 := Lib.hid b5; have HO6 := Lib.hid ho5; clear ho5 hg5 ha5 b5)
                    go_roundg (L.length - (j + 1))
                    case measure => omega
                    case rel => exact ⟨j + 1, by omega, by go_num, HX6, Lib.hid (by rw [HST.out, if_pos trivial, List.length_append]; exact HO6.out)⟩
                · have hltz2 : decide ((j : Int) < (L.length : Int)) = false := decide_eq_false (by omega)
                  have hltp2 : ¬ (j : Int) < (L.length : Int) := by omega
                  have ht : L.take j = L := List.take_of_length_le (by omega)
                  rw [ht, flat_one] at HRQW
                  have hrd4 := Rd.of_row HRQW.out
                  have HRW := Lib.hid hrd4
                  have HRD4 := Lib.hid (HRD3.out.ext HXQ.out)
                  have hss : ((List.filter (fitT p) (L.map (·.1))) == (List.filter (fitT p) (L.map (·.1)))) = true := by simp
                  have HSS := Lib.hid hss
                  have HCD := Lib.hid (fun w1 (h : Ext w w1) => codedC w1 P (HS.out.ext h) 0 (by decide))
                  clear hss hrd4 ht hwq hlt2
                  go_wp2_with fail
                  refine (HCD.out _ HI4.out.tt.ext).mono ?_
                  rintro e w5 ⟨rfl, ho⟩
                  have HI5 := Lib.hid (HI4.out.later ho)
                  have HRD5 := Lib.hid (HRD4.out.ext ho)
                  have HRW5 := Lib.hid (HRW.out.ext ho)
                  clear ho
                  go_wp2_with fail
                  refine (sameTexts_any _ _ _ _ _ HRD5.out HRW5.out).mono ?_
                  rintro e w6 ⟨rfl, hd⟩
                  have HI6 := Lib.hid (HI5.out.later hd.ext)
                  rw [HSS.out]
                  clear hd
                  go_wp2_with fail
                  go_meet
                  exact ⟨_, _, HI6, HFI, HLN⟩
      case rest =>
        obtain ⟨slvz, LL, HZ, HFZ, HLZ⟩ := hcut
        have c1 := HZ.out.at (j := 1) (u := S p) rfl
        have hfew : LL.length ≤ 60 := HFZ.out.few
        have hget := treeGet_any _ b mb LL p HZ.out.tt.tree
        have hfnd := findT_any _ m slvz LL p HZ.out.tt.model.cells HZ.out.tt.model.rd (by omega)
        rcases lookup_of_fndT (L := LL) (k := p) with ⟨h1, h2⟩ | ⟨j, y, h1, h2, h3⟩
        · rw [h2] at hget
          rw [h1] at hfnd
          have HG := Lib.hid hget
          have HF := Lib.hid hfnd
          clear hget hfnd h1 h2
          go_wp2_with fail
          refine HG.out.mono ?_
          rintro e w8 ⟨rfl, rfl⟩
          go_wp2_with fail
          refine HF.out.mono ?_
          rintro e w8 ⟨rfl, rfl⟩
          go_wp2_with fail
          go_roundg (l.length - (k + 1))
          case rel => exact ⟨k + 1, _, slvz, LL, by omega, by go_num, rfl, by omega, by omega, Lib.hid HZ.out.tt, HFZ, HLZ⟩
          case measure => omega
        · rw [h3] at hget
          rw [h1] at hfnd
          have hj : j < LL.length := (List.getElem?_eq_some_iff.1 h2).1
          have hjz : (j : Int) < (LL.length : Int) := by omega
          obtain ⟨am, capm, hslm, _, _, hcm⟩ := HZ.out.tt.model.rd
          obtain ⟨bb, off, rfl, hcell⟩ := hcm (by intro h; rw [h] at hj; simp at hj)
          have q0 := cell_of_heap HZ.out.tt.model.cells 0
          rw [hslm] at q0
          have q0 := q0.trans (show _ = some (.slice (some ⟨bb, off, none⟩) LL.length capm) from rfl)
          have q1 := hcell j _ h2 1 _ rfl
          have HG := Lib.hid hget
          have HF := Lib.hid hfnd
          have hyy : (y == y) = true := by simp
          clear hget hfnd h1 h2 h3 hcm hcell hslm
          go_wp2_with fail
          refine HG.out.mono ?_
          rintro e w8 ⟨rfl, rfl⟩
          go_wp2_with fail
          refine HF.out.mono ?_
          rintro e w8 ⟨rfl, rfl⟩
          go_wp2_with fail
          go_roundg (l.length - (k + 1))
          case rel => exact ⟨k + 1, _, slvz, LL, by omega, by go_num, rfl, by omega, by omega, Lib.hid HZ.out.tt, HFZ, HLZ⟩
          case measure => omega
    · have hltz : ¬ ((k : Int) < (l.length : Int)) := by omega
      have hfew : L.length ≤ 60 := HFI.out.few
      have h1 := fun W (hW : Ext wr W) => text_any W b mb L (HI.out.tree.ext hW) HFI.out.rising HLN.out HFI.out.bytes HFI.out.few (HPW.out.ext (HI.out.ext.then hW))
      have h2 := fun W (hW : Ext wr W) => textM_any W w.heap.size m slv L (HI.out.model.ext hW) HLN.out HFI.out.bytes HFI.out.few
      have h3 := fun W (hW : Ext wr W) => paths_any W b mb L (HI.out.tree.ext hW) HFI.out.rising (fun q hq => by have := HLN.out q hq; omega) (by omega)
      have h4 := fun W (hW : Ext wr W) => pathsM_any W w.heap.size m slv L (HI.out.model.ext hW) (by omega)
      have H1 := Lib.hid h1
      have H2 := Lib.hid h2
      have H3 := Lib.hid h3
      have H4 := Lib.hid h4
      have htt : (textT L == textT L) = true := by simp
      generalize textT L = T at H1 H2 htt
      have hpp : (L.map (·.1) == L.map (·.1)) = true := by simp
      have HPP := Lib.hid hpp
      clear h1 h2 h3 h4 hpp hlt
      go_wp2_with fail
      refine (H1.out _ (Only.refl _ _)).mono ?_
      rintro e wA ⟨rfl, hoA⟩
      have HA := Lib.hid hoA
      clear hoA
      go_wp2_with fail
      refine (H2.out _ HA.out).mono ?_
      rintro e wB ⟨rfl, hoB⟩
      have HB := Lib.hid (HA.out.then hoB)
      clear hoB
      go_wp2_with fail
      refine (H3.out _ HB.out).mono ?_
      rintro e wC ⟨vC, rfl, hrC, hoC, _⟩
      have HCC := Lib.hid (HB.out.then hoC)
      have HRC := Lib.hid hrC
      clear hoC hrC
      go_wp2_with fail
      refine (H4.out _ HCC.out).mono ?_
      rintro e wD ⟨vD, rfl, hrD, hoD⟩
      have HD := Lib.hid (HCC.out.then hoD)
      have HRD := Lib.hid hrD
      have HRC2 := Lib.hid (HRC.out.ext hoD)
      clear hoD hrD
      go_wp2_with fail
      refine (sameTexts_any _ _ _ _ _ HRC2.out HRD.out).mono ?_
      rintro e wE ⟨rfl, hd⟩
      rw [HPP.out]
      have HE := Lib.hid (HD.out.then hd.ext)
      clear hd
      go_wp2_with fail
      go_ret
      exact ⟨rfl, HI.out.ext.then HE.out⟩
end Go.Proofs.YtnmhaipjfpongaaGreatDoor
