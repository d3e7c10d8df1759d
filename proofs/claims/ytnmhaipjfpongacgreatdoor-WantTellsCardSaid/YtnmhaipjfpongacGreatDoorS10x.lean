/- The second reference's WantOf. No condition but how rules and files lie, and lengths. -/
import Derived.Test.YtnmhaipjfpongacGreatDoorGm
import Derived.Test.YtnmhaipjfpongacGreatDoorF16x
import Derived.Test.YtnmhaipjfpongacGreatDoorGf
namespace Go.Proofs.YtnmhaipjfpongacGreatDoor
open Go.ChangeShapes Go.WideShapes Go.ChangeAt Go.RowKit

theorem sumI_le {l : List B} (h : ∀ x ∈ l, x.length ≤ 2000) : sumLen l ≤ l.length * 2000 := by
  induction l with
  | nil => simp [sumLen]
  | cons x l ih =>
    rw [sum_cons, List.length_cons, Nat.succ_mul]
    have := ih fun y hy => h y (.tail _ hy)
    have := h x (.head _)
    omega
def RetTld (x : Tld) (w : World) (e : Ending) (w' : World) : Prop := e = .returned (.tuple #[S x.1, IN x.2]) ∧ Ext w w'
theorem fnd_look (T : FL) (p : B) : (∃ (k : Nat) (q : B × B), fndT T p = (k : Int) ∧ T[k]? = some q ∧ T.lookup p = some q.2) ∨ (fndT T p = -1 ∧ T.lookup p = none) := by
  unfold fndT
  induction T with
  | nil => exact .inr ⟨rfl, rfl⟩
  | cons q T ih =>
    obtain ⟨a, x⟩ := q
    rw [List.findIdx?_cons, List.lookup_cons]
    by_cases h : a = p
    · subst h
      exact .inl ⟨0, (a, x), by simp, rfl, by simp⟩
    · have h1 : (a == p) = false := beq_eq_false_iff_ne.2 h
      have h2 : (p == a) = false := beq_eq_false_iff_ne.2 (Ne.symm h)
      simp only [h1, h2]
      rcases ih with ⟨k, q, h3, h4, h5⟩ | ⟨h3, h4⟩
      · refine .inl ⟨k + 1, q, ?_, by simpa using h4, h5⟩
        cases hf : T.findIdx? (fun p_1 => p_1.1 == p) with
        | none => rw [hf] at h3; simp at h3
        | some j =>
          rw [hf] at h3
          have h6 : (j : Int) = (k : Int) := by simpa using h3
          obtain rfl : j = k := by omega
          simp
      · refine .inr ⟨?_, h4⟩
        cases hf : T.findIdx? (fun p_1 => p_1.1 == p) with
        | none => simp
        | some j => rw [hf] at h3; simp at h3

set_option maxRecDepth 100000 in
set_option maxHeartbeats 8000000 in
theorem want2_step (w0 : World) (mb : Nat) (slv lv : Value) (l : List Rule) (T : FL) (W : B → Tld) (n : Nat) (D : B → Prop) (rk : B → Nat) (hS : Asks l T W D rk) (hO : ∀ p, TldOk (W p))
    (hl : RdR w0 lv l) (hll : l.length ≤ 1000) (hw : ∀ r ∈ l, r.ins.length ≤ 12 ∧ r.word.length ≤ 1000) (hm : w0.heap[mb]? = some (.cells #[slv] 147 (0, 0))) (hr : RdS 2 encF w0 slv T) (hT : T.length ≤ 1000000)
    (hof : ∀ p, D p → rk p < n → ∀ w, Ext w0 w → Calls Tryz.prog 22 #[.pointer (some ⟨mb, 0, none⟩), lv, S p] w (RetTld (W p) w))
    (p : B) (hp : D p) (hrk : rk p < n + 1) (w : World) (hx : Ext w0 w) :
    Calls Tryz.prog 22 #[.pointer (some ⟨mb, 0, none⟩), lv, S p] w (RetTld (W p) w) := by
  have HRD := Lib.hid hl
  have HX0 := Lib.hid hx
  have HOF := Lib.hid hof
  have HW := Lib.hid hw
  have HOK := Lib.hid hO
  have HM := Lib.hid hm
  have HRT := Lib.hid hr
  have hst := hS.step p hp
  have HDN := Lib.hid (fun r (hr : ruleOf l p = some r) q (hq : q ∈ r.ins) => (show D q ∧ rk q < n from by
    obtain ⟨h1, h2⟩ := hS.down p hp r hr q hq
    exact ⟨h1, by omega⟩))
  obtain ⟨X, hX⟩ : ∃ X, X = W p := ⟨_, rfl⟩
  rw [← hX]
  have HWP : Hid (X = wStep l T W p) := Lib.hid (by rw [hX]; exact hst)
  have HFD := Lib.hid (fun w1 (hx1 : Ext w w1) => findT_any w1 mb slv T p ((hx.then hx1).heapOf hm (fun h => h)) (hr.ext (hx.then hx1)) hT)
  obtain ⟨a, cap, rfl, _, _, hc⟩ := hl
  have HC := Lib.hid hc
  clear hS hO hw hm hr hof hst hX hc hx hrk hp
  go_enter Tryz.func22, Tryz.ntmps22
  go_wp2_with fail
  go_loopw [8, 9, 10, 11, 12] (fun i _ _ _ _ wr => ∃ j : Nat, j ≤ l.length ∧ i = .int .i64 j ∧ Hid (∀ t q, t < j → l[t]? = some q → (q.out == p) = false) ∧ Hid (Ext w wr)) (fun i _ _ _ _ _ => l.length - (intOf i).toNat)
  case atStart => exact ⟨0, Nat.zero_le _, rfl, Lib.hid (fun t q h => absurd h (Nat.not_lt_zero _)), Lib.hid (Only.refl _ _)⟩
  case round =>
    obtain ⟨j, hj, rfl, HB, HX⟩ := hrel
    by_cases hlt : j < l.length
    · have hltz : (j : Int) < (l.length : Int) := by omega
      have hj0 : (0 : Int) ≤ (j : Int) := by omega
      have hj1 : ¬ (j : Int) < 0 := by omega
      have hj2 : ¬ (l.length : Int) ≤ (j : Int) := by omega
      obtain ⟨b, off, rfl, hcell⟩ := HC.out (by intro h; rw [h] at hlt; simp at hlt)
      obtain ⟨r, hq⟩ : ∃ y, l[j]? = some y := ⟨_, List.getElem?_eq_getElem hlt⟩
      obtain ⟨u, hu, c0, c1, c2, c3⟩ := hcell j r hq
      have hxw := HX0.out.then HX.out
      have d0 := hxw.cellOf c0 (fun h => h)
      have HC1 := Lib.hid c1
      have HC2 := Lib.hid c2
      have HC3 := Lib.hid c3
      have HQ := Lib.hid hq
      have HLT := Lib.hid hlt
      clear hcell hq c0 c1 c2 c3 hlt hxw
      cases heq : r.out == p with
      | false =>
        have HB2 : Hid (∀ t q, t < j + 1 → l[t]? = some q → (q.out == p) = false) := Lib.hid (fun t q ht hq => by
          rcases Nat.lt_succ_iff_lt_or_eq.1 ht with h | rfl
          · exact HB.out t q h hq
          · rw [HQ.out] at hq; cases hq; exact heq)
        clear hu
        go_wp2_with fail
        go_roundw
        case rel => exact ⟨j + 1, HLT.out, by go_num, HB2, HX⟩
        case measure => have := HLT.out; simp [intOf]; omega
      | true =>
        have hro : ruleOf l p = some r := by
          unfold ruleOf
          rw [List.find?_eq_some_iff_getElem]
          refine ⟨heq, j, HLT.out, (List.getElem?_eq_some_iff.1 HQ.out).2, fun t ht => ?_⟩
          rw [HB.out t _ ht (List.getElem?_eq_getElem (by have := HLT.out; omega))]
          rfl
        have HXW : Hid (X = wMade W r) := Lib.hid (by rw [HWP.out]; unfold wStep; rw [hro])
        have HDQ := Lib.hid (fun q (hq : q ∈ r.ins) => HDN.out r hro q hq)
        obtain ⟨hr12, hrw⟩ := HW.out r (List.mem_of_getElem? HQ.out)
        have hrz : (r.ins.length : Int) ≤ 12 := by omega
        have HRW := Lib.hid hrw
        obtain ⟨au, cu, rfl, _, _, hcu⟩ := hu
        have HCU := Lib.hid hcu
        obtain ⟨bs, hbs⟩ : ∃ bs, bs = wr.heap.size := ⟨_, rfl⟩
        have HBS : Hid (w.heap.size ≤ bs ∧ bs ≤ wr.heap.size) := Lib.hid ⟨by rw [hbs]; exact HX.out.size, by omega⟩
        clear hro hrw hcu hbs HFD HDN
        go_wp2_with fail
        go_loopw [9, 10, 11, 12] (fun q i _ _ wx => ∃ (k : Nat) (qv : Value), k ≤ r.ins.length ∧ qv = q ∧ i = .int .i64 k ∧ Hid (Row bs wx qv ((r.ins.take k).map fun q => (W q).1)) ∧ Hid (∀ q ∈ r.ins.take k, (W q).2 = 0) ∧ Hid (Ext w wx) ∧ Hid (bs ≤ wx.heap.size)) (fun _ i _ _ _ => r.ins.length - (intOf i).toNat)
        case atStart => exact ⟨0, _, Nat.zero_le _, rfl, rfl, Lib.hid (Row.nil _ _), Lib.hid (by simp), HX, Lib.hid HBS.out.2⟩
        case round =>
          clear HX
          obtain ⟨k, qv, hk, rfl, rfl, HR, HZ, HX, HSZ⟩ := hrel
          have hxw := HX0.out.then HX.out
          have d3 := hxw.cellOf HC3.out (fun h => h)
          by_cases hkl : k < r.ins.length
          · have hkz : (k : Int) < (r.ins.length : Int) := by omega
            have hk0 : (0 : Int) ≤ (k : Int) := by omega
            have hk1 : ¬ (k : Int) < 0 := by omega
            have hk2 : ¬ (r.ins.length : Int) ≤ (k : Int) := by omega
            obtain ⟨bu, ou, rfl, hcellu⟩ := HCU.out (by intro h; rw [h] at hkl; simp at hkl)
            obtain ⟨q, hqq⟩ : ∃ y, r.ins[k]? = some y := ⟨_, List.getElem?_eq_getElem hkl⟩
            have d4 := hxw.cellOf (hcellu k q hqq) (fun h => h)
            obtain ⟨hdq, hrq⟩ := HDQ.out q (List.mem_of_getElem? hqq)
            have HCL := Lib.hid (HOF.out q hdq hrq wr hxw)
            have HQQ := Lib.hid hqq
            have HOQ := Lib.hid (HOK.out q)
            have HKL := Lib.hid hkl
            clear hcellu hqq hdq hrq hkl hxw
            by_cases h0 : (W q).2 = 0
            · have HTK : Hid ((r.ins.take (k + 1)).map (fun q => (W q).1) = (r.ins.take k).map (fun q => (W q).1) ++ [(W q).1]) := Lib.hid (by rw [List.take_add_one, HQQ.out]; simp)
              have HZ2 : Hid (∀ x ∈ r.ins.take (k + 1), (W x).2 = 0) := Lib.hid (fun x hx => by
                rw [List.take_add_one, HQQ.out] at hx
                rcases List.mem_append.1 hx with hx | hx
                · exact HZ.out x hx
                · rw [Option.toList_some, List.mem_singleton] at hx; rw [hx]; exact h0)
              have hrl : ((r.ins.take k).map fun q => (W q).1).length ≤ 1000000 := by rw [List.length_map, List.length_take]; omega
              have HRL := Lib.hid hrl
              rw [show W q = ((W q).1, 0) from Prod.ext rfl h0] at HCL
              generalize (r.ins.take k).map (fun q => (W q).1) = Z at HR HTK HRL
              generalize (W q).1 = y at HCL HTK
              clear h0 hrl HOQ
              go_wp2_with fail
              refine HCL.out.mono ?_
              rintro e w3 ⟨rfl, ho⟩
              have HX3 := Lib.hid (HX.out.then ho)
              have HR3 := Lib.hid (HR.out.ext ho)
              have HSZ3 : Hid (bs ≤ w3.heap.size) := Lib.hid (Nat.le_trans HSZ.out ho.size)
              clear ho d3 d4
              go_wp2_with (at_builtin; refine wpText rfl (.tmp 54) (.tmp 56) w bs _ Z y w3 rfl rfl rfl rfl HR3.out HRL.out HSZ3.out HX3.out HBS.out.1 ?_; intro g5 cap5 w5 HR5 HX5 HG5; have HSZ5 : Hid (bs ≤ w5.heap.size) := Lib.hid (Nat.le_trans HSZ3.out (Only.of_grown HG5.out).size))
              go_roundw
              case rel => exact ⟨k + 1, _, HKL.out, rfl, by go_num, by rw [HTK.out]; exact HR5, HZ2, HX5, HSZ5⟩
              case measure => have := HKL.out; simp [intOf]; omega
            · have hXq : X = W q := by rw [HXW.out]; exact made_bad HQQ.out h0 HZ.out
              have hy : (W q).1 = [] := HOQ.out.zero h0
              rw [← hXq] at HCL hy h0
              obtain ⟨x1, x2⟩ := X
              have hy2 : x1 = [] := hy
              subst hy2
              have hxz : (0 : Int) < (x2 : Int) := by
                have : x2 ≠ 0 := h0
                omega
              clear hXq hy h0 HOQ
              go_wp2_with fail
              refine HCL.out.mono ?_
              rintro e w3 ⟨rfl, ho⟩
              have HX3 := Lib.hid (HX.out.then ho)
              clear ho d3 d4
              go_wp2_with fail
              go_ret2
              exact ⟨rfl, HX3.out⟩
          · have hkz : ¬ (k : Int) < (r.ins.length : Int) := by omega
            have hkk : k = r.ins.length := by omega
            subst hkk
            rw [List.take_length] at HR HZ
            obtain ⟨Z, hZ⟩ : ∃ Z, Z = r.ins.map fun q => (W q).1 := ⟨_, rfl⟩
            have hXr : X = (runOut r.kind r.word Z, runCode r.kind r.word Z) := by rw [HXW.out, hZ]; exact made_ok HZ.out
            have hsum : sumLen Z + Z.length ≤ 900000 := by
              have h1 := sumI_le (l := Z) (fun x hx => by
                rw [hZ] at hx
                obtain ⟨q, _, rfl⟩ := List.mem_map.1 hx
                exact (HOK.out q).len)
              have h2 : Z.length = r.ins.length := by rw [hZ, List.length_map]
              omega
            rw [← hZ] at HR
            have HACT := Lib.hid (fun (wq : World) (hx : Ext wr wq) => actOf_any wq r.kind r.word Z qv (HR.out.rd.ext hx) hsum HRW.out)
            obtain ⟨x1, x2⟩ := X
            rw [← show x1 = runOut r.kind r.word Z from congrArg Prod.fst hXr, ← show x2 = runCode r.kind r.word Z from congrArg Prod.snd hXr] at HACT
            obtain ⟨av, cv, rfl, _, _, _⟩ := HR.out.rd
            have k1 := hxw.cellOf HC1.out (fun h => h)
            have k2 := hxw.cellOf HC2.out (fun h => h)
            generalize Z.length = zl at *
            generalize r.kind = kd at *
            generalize r.word = wd at *
            have HK1 := Lib.hid k1
            have HK2 := Lib.hid k2
            clear hXr hsum hkl hk hxw HR HZ HXW HWP hZ
            go_wp2_with fail
            go_region_held3 (fun w' => w'.cell? ⟨b, off + j * 4 + 1, none⟩ = some (S kd) ∧ w'.cell? ⟨b, off + j * 4 + 2, none⟩ = some (S wd)) (first | exact ⟨HX5.out.cellOf HK1.out (fun h => h), HX5.out.cellOf HK2.out (fun h => h)⟩ | exact ⟨k1, k2⟩ | go_keep)
              ((go_at_call 97; refine (HACT.out _ (by first | exact Only.refl _ _ | exact Only.drew _ _ | exact Only.drewN _ _ _)).mono ?_; rintro e w5 ⟨rfl, ho⟩; have HX5 : Hid (Ext wr w5) := Lib.hid (Only.ext (by first | exact Only.refl _ _ | exact Only.drew _ _ | exact Only.drewN _ _ _) ho); clear ho))
            all_goals
              go_wp2_with fail
              go_ret2
              exact ⟨rfl, HX.out.then HX5.out⟩
    · have hltz : ¬ (j : Int) < (l.length : Int) := by omega
      have hro : ruleOf l p = none := by
        unfold ruleOf
        rw [List.find?_eq_none]
        intro q hq
        obtain ⟨t, ht⟩ := List.getElem?_of_mem hq
        rw [HB.out t q (by have := (List.getElem?_eq_some_iff.1 ht).1; omega) ht]
        decide
      have HXL : Hid (X = wLeaf T p) := Lib.hid (by rw [HWP.out]; unfold wStep; rw [hro])
      have HFN := Lib.hid (HFD.out wr HX.out)
      clear hro hlt hj HFD
      rcases fnd_look T p with ⟨k, q, h1, h2, h3⟩ | ⟨h1, h3⟩
      · rw [h1] at HFN
        have hXv : X = (q.2, 0) := by rw [HXL.out]; unfold wLeaf; rw [h3]
        subst hXv
        have hk0 : ¬ (k : Int) < 0 := by omega
        clear h1 h3
        go_wp2_with fail
        refine HFN.out.mono ?_
        rintro e w3 ⟨rfl, rfl⟩
        have hxw := HX0.out.then HX.out
        have m0 := hxw.cellOf ((cell_of_heap HM.out 0).trans (rfl : _ = some slv)) (fun h => h)
        obtain ⟨aT, cT, hsl, _, _, hcT⟩ := HRT.out
        have hkl := (List.getElem?_eq_some_iff.1 h2).1
        obtain ⟨bT, oT, rfl, hcellT⟩ := hcT (by intro h; rw [h] at hkl; simp at hkl)
        subst hsl
        have t1 := hxw.cellOf (hcellT k q h2 1 (S q.2) rfl) (fun h => h)
        have hkz : (k : Int) < (T.length : Int) := by omega
        have hk1 : (0 : Int) ≤ (k : Int) := by omega
        have hk2 : ¬ (T.length : Int) ≤ (k : Int) := by omega
        clear hcT hcellT h2 hkl hxw
        go_wp2_with fail
        go_ret2
        exact ⟨rfl, HX.out⟩
      · rw [h1] at HFN
        have hXv : X = ([], 6) := by rw [HXL.out]; unfold wLeaf; rw [h3]
        subst hXv
        clear h1 h3
        go_wp2_with fail
        refine HFN.out.mono ?_
        rintro e w3 ⟨rfl, rfl⟩
        go_wp2_with fail
        go_ret2
        exact ⟨rfl, HX.out⟩
theorem want2_any (w0 : World) (mb : Nat) (slv lv : Value) (l : List Rule) (T : FL) (W : B → Tld) (D : B → Prop) (rk : B → Nat) (hS : Asks l T W D rk) (hO : ∀ p, TldOk (W p))
    (hl : RdR w0 lv l) (hll : l.length ≤ 1000) (hw : ∀ r ∈ l, r.ins.length ≤ 12 ∧ r.word.length ≤ 1000) (hm : w0.heap[mb]? = some (.cells #[slv] 147 (0, 0))) (hr : RdS 2 encF w0 slv T) (hT : T.length ≤ 1000000) :
    ∀ (n : Nat) (p : B), D p → rk p < n → ∀ w, Ext w0 w → Calls Tryz.prog 22 #[.pointer (some ⟨mb, 0, none⟩), lv, S p] w (RetTld (W p) w)
  | 0, _, _, h => by omega
  | n + 1, p, hp, hrk => fun w hx => want2_step w0 mb slv lv l T W n D rk hS hO hl hll hw hm hr hT (fun q hq hrq => want2_any w0 mb slv lv l T W D rk hS hO hl hll hw hm hr hT n q hq hrq) p hp hrk w hx
end Go.Proofs.YtnmhaipjfpongacGreatDoor
