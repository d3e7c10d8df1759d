/- graph.Leaves. No condition but how the rules lie, their lengths, and what the variables hold. -/
import Derived.Test.YtnmhaipjfpongacGreatDoorG9x
namespace Go.Proofs.YtnmhaipjfpongacGreatDoor
open Go.ChangeShapes Go.WideShapes Go.ChangeAt Go.RowKit

def leafB (l : List Rule) (s : B) : Bool := !madeB l s
def leavesB (l : List Rule) : List B := Lib.compact (sortB ((l.flatMap Rule.ins).filter (leafB l)))
def leavesOut (l : List Rule) : List B := if (sheetFault l).1 ≠ 0 then [] else leavesB l
def RetLeaves (P : Nat → Addr) (l : List Rule) (w : World) (e : Ending) (w' : World) : Prop :=
  ∃ v ev, e = .returned (.tuple #[v, ev]) ∧ Row w.heap.size w' v (leavesOut l) ∧ ErrAt w' P (sheetFault l) ev ∧ Ext w w'

theorem enters_Leaves1 : ∀ args w, (callFunc 269 args).run Tryz.prog w = .ok (.enter 269 args) w := fun args w => by kernel_rfl
theorem Leaves1_test (w : World) (r : Rule) (u : Value) (b : Nat) (o : B) (hu : Rd S w u r.ins) (h : w.cell? ⟨b, 0, none⟩ = some (S o)) :
    Calls Tryz.prog 269 #[AggR r u, .pointer (some ⟨b, 0, none⟩)] w (RetE (.bool (r.out == o)) w) := by
  obtain ⟨a, cap, rfl, _, _, _⟩ := hu
  obtain ⟨q, hq⟩ : ∃ q, (r.out == o) = q := ⟨_, rfl⟩
  rw [hq]
  have h1 := fun ob => (Only.alloc (fun _ => False) w ob).cellOf h (fun h => h)
  clear h
  go_enter Tryz.func269, Tryz.ntmps269
  go_wp2_with fail
  go_ret
  exact ⟨rfl, Only.alloc _ _ _⟩

theorem rowDown {b b' : Nat} {w : World} {v : Value} {l : List B} (h : Row b' w v l) (hb : b ≤ b') : Row b w v l :=
  ⟨h.1, h.2.imp id fun ⟨g, cap, cur, e, hg, r⟩ => ⟨g, cap, cur, e, Nat.le_trans hb hg, r⟩⟩

/-- The leaves on their way: of the first j rules, and of the first t inputs. -/
def lvs (l : List Rule) (j : Nat) : List B := ((l.take j).flatMap Rule.ins).filter (leafB l)
theorem lvs_step {l : List Rule} {j : Nat} {r : Rule} (h : l[j]? = some r) : lvs l (j + 1) = lvs l j ++ r.ins.filter (leafB l) := by
  unfold lvs
  rw [List.take_add_one, h, Option.toList_some, List.flatMap_append, List.filter_append]
  simp
theorem ins_step {ins : List B} {t : Nat} {s : B} (p : B → Bool) (h : ins[t]? = some s) : (ins.take (t + 1)).filter p = (ins.take t).filter p ++ (if p s then [s] else []) := by
  rw [List.take_add_one, h, Option.toList_some, List.filter_append]
  congr 1
  cases hp : p s <;> simp [List.filter, hp]
theorem lvs_len {l : List Rule} (hi : ∀ r ∈ l, r.ins.length ≤ 20000) : ∀ j, (lvs l j).length ≤ j * 20000
  | 0 => by simp [lvs]
  | j + 1 => by
    have ih := lvs_len hi j
    cases h : l[j]? with
    | none =>
      have : lvs l (j + 1) = lvs l j := by unfold lvs; rw [List.take_add_one, h]; simp
      rw [this]; exact Nat.le_trans ih (Nat.mul_le_mul_right _ (Nat.le_succ j))
    | some r =>
      rw [lvs_step h, List.length_append]
      rw [Nat.add_mul, Nat.one_mul]
      exact Nat.add_le_add ih (Nat.le_trans (List.length_filter_le (leafB l) r.ins) (hi r (List.mem_of_getElem? h)))

set_option maxRecDepth 100000 in
set_option maxHeartbeats 4000000 in
theorem graphLeaves_any (w : World) (P : Nat → Addr) (l : List Rule) (v : Value) (hv : RdR w v l) (hs : ∀ r ∈ l, RuleSm 900000 r) (hi : ∀ r ∈ l, r.ins.length ≤ 20000) (hV : PV w P [1, 2, 3, 4, 6, 9]) :
    Calls Tryz.prog 200 #[v] w (RetLeaves P l w) := by
  have HSH := Lib.hid (sheet_any w P l v hv hs hV)
  have HRD := Lib.hid hv
  have HLL := Lib.hid (lvs_len hi)
  have HIN := Lib.hid hi
  obtain ⟨a, cap, rfl, _, _, hc⟩ := hv
  have HC := Lib.hid hc
  clear hV hs hc hi
  obtain ⟨O, hO⟩ : ∃ O, O = leavesOut l := ⟨_, rfl⟩
  have HFIN : Hid (∀ e w', (∃ v ev, e = .returned (.tuple #[v, ev]) ∧ Row w.heap.size w' v O ∧ ErrAt w' P (sheetFault l) ev ∧ Ext w w') → RetLeaves P l w e w') := Lib.hid (by
    rintro e w' ⟨v, ev, h1, h2, h3, h4⟩
    rw [hO] at h2
    exact ⟨v, ev, h1, h2, h3, h4⟩)
  by_cases h0 : (sheetFault l).1 = 0
  · have HR := Lib.hid (sheet_ok.1 h0)
    have HN0 := Lib.hid h0
    have h40 := HR.out.1
    have hlz : (l.length : Int) ≤ 40 := by omega
    have HO : Hid (O = Lib.compact (sortB (lvs l l.length))) := Lib.hid (by
      rw [hO]
      unfold leavesOut leavesB lvs
      rw [if_neg (by simpa using h0), List.take_length])
    clear h0 hO
    go_enter Tryz.func200, Tryz.ntmps200
    go_wp2_with fail
    refine HSH.out.mono ?_
    rintro e w1 ⟨ev, rfl, he, ho⟩
    obtain rfl := he.zero HN0.out
    have HX1 := Lib.hid ho
    have HEE := Lib.hid he
    clear he ho
    go_wp2_with fail
    obtain ⟨bs, hbs⟩ : ∃ bs, bs = w1.heap.size := ⟨_, rfl⟩
    have HBS : Hid (w.heap.size ≤ bs ∧ bs ≤ w1.heap.size) := Lib.hid ⟨by rw [hbs]; exact HX1.out.size, by omega⟩
    clear hbs
    go_loopw [5, 7, 9, 17] (fun q _ _ i wr => ∃ (j : Nat) (qv : Value), qv = q ∧ j ≤ l.length ∧ i = .int .i64 j ∧ Hid (Row bs wr qv (lvs l j)) ∧ Hid (Ext w wr) ∧ Hid (bs ≤ wr.heap.size)) (fun _ _ _ i _ => l.length - (intOf i).toNat)
    case atStart => exact ⟨0, _, rfl, Nat.zero_le _, rfl, Lib.hid (by simpa [lvs] using Row.nil bs w1), HX1, Lib.hid HBS.out.2⟩
    case round =>
      obtain ⟨j, qv, rfl, hj, rfl, HQ, HX, HB⟩ := hrel
      by_cases hlt : j < l.length
      · have hltz : (j : Int) < (l.length : Int) := by omega
        have hj0 : (0 : Int) ≤ (j : Int) := by omega
        obtain ⟨b, off, rfl, hcell⟩ := HC.out (by intro h; rw [h] at hlt; simp at hlt)
        obtain ⟨r, hq⟩ : ∃ y, l[j]? = some y := ⟨_, List.getElem?_eq_getElem hlt⟩
        obtain ⟨u, hu, c0, c1, c2, c3⟩ := hcell j r hq
        have d0 := HX.out.cellOf c0 (fun h => h)
        have d1 := HX.out.cellOf c1 (fun h => h)
        have d2 := HX.out.cellOf c2 (fun h => h)
        have d3 := HX.out.cellOf c3 (fun h => h)
        have HST := Lib.hid (lvs_step hq)
        have hlen := HLL.out j
        have hri := HIN.out r (List.mem_of_getElem? hq)
        have HX2 := Lib.hid (HX.out.thenAlloc (.cells #[S r.out, S r.kind, S r.word, u] 55 (0, 0)))
        have HQ2 := Lib.hid (HQ.out.ext (Only.alloc (fun _ => False) wr (.cells #[S r.out, S r.kind, S r.word, u] 55 (0, 0))))
        have HB2 : Hid (bs ≤ (wr.alloc (.cells #[S r.out, S r.kind, S r.word, u] 55 (0, 0))).heap.size) := Lib.hid (by simp; have := HB.out; omega)
        obtain ⟨au, cu, hua, _, _, hci⟩ := hu
        obtain ⟨ins, hins⟩ : ∃ ins, ins = r.ins := ⟨_, rfl⟩
        rw [← hins] at HST hua hci hri
        subst hua
        obtain ⟨A, hA⟩ : ∃ A, A = lvs l j := ⟨_, rfl⟩
        rw [← hA] at HST hlen HQ2
        have HAL : Hid (A.length ≤ 800000) := Lib.hid (by
          have : j * 20000 ≤ 40 * 20000 := Nat.mul_le_mul_right _ (by omega)
          omega)
        have HCI := Lib.hid hci
        have hinz : (ins.length : Int) ≤ 20000 := by omega
        clear hcell hq c0 c1 c2 c3 hins HX HQ HB hA hlen hri hci
        go_wp2_with fail
        generalize (wr.alloc (.cells #[S r.out, S r.kind, S r.word, .slice au ins.length cu] 55 (0, 0))) = wa at HX2 HQ2 HB2 ⊢
        go_loopw [5, 9, 24] (fun q _ i wx => ∃ (t : Nat) (qv : Value), qv = q ∧ t ≤ ins.length ∧ i = .int .i64 t ∧ Hid (Row bs wx qv (A ++ (ins.take t).filter (leafB l))) ∧ Hid (Ext w wx) ∧ Hid (bs ≤ wx.heap.size)) (fun _ _ i _ => ins.length - (intOf i).toNat)
        case atStart => exact ⟨0, _, rfl, Nat.zero_le _, rfl, Lib.hid (by simpa using HQ2.out), HX2, HB2⟩
        case round =>
          clear HX2 HQ2 HB2
          obtain ⟨t, qv, rfl, ht, rfl, HQ, HX, HB⟩ := hrel
          by_cases hil : t < ins.length
          · have hilz : (t : Int) < (ins.length : Int) := by omega
            have ht0 : (0 : Int) ≤ (t : Int) := by omega
            obtain ⟨b2, off2, rfl, hcell⟩ := HCI.out (by intro h; rw [h] at hil; simp at hil)
            obtain ⟨s, hs⟩ : ∃ y, ins[t]? = some y := ⟨_, List.getElem?_eq_getElem hil⟩
            have e0 := HX.out.cellOf (hcell t s hs) (fun h => h)
            have hk0 := (cell_of_heap (MapKept.heap_alloc wr (.cells #[S s] 9 (0, 0))).1 0).trans rfl
            have HX4 := Lib.hid (HX.out.thenAlloc (.cells #[S s] 9 (0, 0)))
            have hcf := containsFunc_R1 269 (.pointer (some ⟨wr.heap.size, 0, none⟩)) (fun x => x.out == s) (wr.alloc (.cells #[S s] 9 (0, 0))) (.slice (some ⟨b, off, none⟩) l.length cap) l (HRD.out.ext HX4.out) enters_Leaves1
              (fun w1 h1 x u' _ hu' => Leaves1_test w1 x u' wr.heap.size s hu' (h1.cellOf hk0 (fun h => h)))
            have HCF := Lib.hid hcf
            have HQ4 := Lib.hid (HQ.out.ext (Only.alloc (fun _ => False) wr (.cells #[S s] 9 (0, 0))))
            have HB4 : Hid (bs ≤ (wr.alloc (.cells #[S s] 9 (0, 0))).heap.size) := Lib.hid (by simp; have := HB.out; omega)
            have hst := ins_step (leafB l) hs
            have hfl : (A ++ (ins.take t).filter (leafB l)).length ≤ 1000000 := by
              have h1 := List.length_filter_le (leafB l) (ins.take t)
              rw [List.length_take] at h1
              rw [List.length_append]
              have := HAL.out
              omega
            have HFL := Lib.hid hfl
            have HK0 := Lib.hid hk0
            clear hcell hs hcf hfl HQ HX HB hk0
            cases hmd : (l.any fun x => x.out == s) with
            | true =>
              rw [hmd] at HCF
              have hlf : leafB l s = false := by unfold leafB madeB; rw [hmd]; rfl
              rw [hlf, if_neg (by decide), List.append_nil] at hst
              rw [← hst] at HQ4
              clear hst hmd hlf hil
              go_wp2_with fail
              refine (HCF.out).mono ?_
              rintro e w4 ⟨rfl, ho⟩
              have HX5 := Lib.hid (HX4.out.then ho)
              have HQ5 := Lib.hid (HQ4.out.ext ho)
              have HB5 := Lib.hid (Nat.le_trans HB4.out ho.size)
              clear ho
              go_wp2_with fail
              go_roundw
              case rel => exact ⟨t + 1, _, rfl, by omega, by go_num, HQ5, HX5, HB5⟩
              case measure => simp [intOf]; omega
            | false =>
              rw [hmd] at HCF
              have hlf : leafB l s = true := by unfold leafB madeB; rw [hmd]; rfl
              rw [hlf, if_pos rfl] at hst
              have HST2 : Hid (A ++ (ins.take (t + 1)).filter (leafB l) = (A ++ (ins.take t).filter (leafB l)) ++ [s]) := Lib.hid (by rw [hst, List.append_assoc])
              generalize A ++ (ins.take t).filter (leafB l) = AT at HQ4 HFL HST2
              clear hst hmd hlf hil
              go_wp2_with fail
              refine (HCF.out).mono ?_
              rintro e w4 ⟨rfl, ho⟩
              have HX5 := Lib.hid (HX4.out.then ho)
              have HQ5 := Lib.hid (HQ4.out.ext ho)
              have HB5 := Lib.hid (Nat.le_trans HB4.out ho.size)
              have HHO := Lib.hid ho
              clear ho
              have f0 := HHO.out.cellOf HK0.out (fun h => h)
              go_wp2_with (at_builtin; refine wpText rfl (.tmp 32) (.tmp 34) w bs _ AT s w4 rfl rfl rfl rfl HQ5.out HFL.out HB5.out HX5.out HBS.out.1 ?_; intro g5 cap5 w5 HR5 HX6 HG5; have HB6 : Hid (bs ≤ w5.heap.size) := Lib.hid (Nat.le_trans HB5.out (Only.of_grown HG5.out).size))
              go_roundw
              case rel => exact ⟨t + 1, _, rfl, by omega, by go_num, by rw [HST2.out]; exact HR5, HX6, HB6⟩
              case measure => simp [intOf]; omega
          · have hilz : ¬ (t : Int) < (ins.length : Int) := by omega
            rw [List.take_of_length_le (by omega), ← HST.out] at HQ
            clear hil ht
            go_wp2_with fail
            go_roundw
            case rel => exact ⟨j + 1, _, rfl, by omega, by go_num, HQ, HX, HB⟩
            case measure => simp [intOf]; omega
      · have hltz : ¬ (j : Int) < (l.length : Int) := by omega
        obtain rfl : j = l.length := by omega
        have hlen := HLL.out l.length
        have hl8 : (lvs l l.length).length ≤ 1000000 := by
          have : l.length * 20000 ≤ 40 * 20000 := Nat.mul_le_mul_right _ h40
          omega
        have HL8 := Lib.hid hl8
        clear hlen hl8 hlt hj
        generalize lvs l l.length = X at *
        have hso := sort_row wr bs qv X HQ.out HL8.out
        have HSO := Lib.hid hso
        obtain ⟨aq, cq, hqf, _, _, _⟩ := HQ.out.rd
        clear hso
        subst hqf
        go_wp2_with fail
        refine (HSO.out).mono ?_
        rintro e w5 ⟨rfl, hr5, ho5⟩
        have HR5 := Lib.hid hr5
        have HX5 := Lib.hid (HX.out.trans ho5 (fun _ _ h => h) (fun i hi e => by have := HQ.out.base i e; have := HBS.out; omega))
        have HB5 := Lib.hid (Nat.le_trans HB.out ho5.size)
        clear hr5 ho5
        have HSL : Hid ((sortB X).length ≤ 1000000) := Lib.hid (by have e : (sortB X).length = X.length := List.length_mergeSort _; rw [e]; exact HL8.out)
        have HCO := Lib.hid (compact_row w5 bs _ (sortB X) HR5.out HSL.out)
        go_wp2_with fail
        refine (HCO.out).mono ?_
        rintro e w6 ⟨v6, rfl, hr6, ho6⟩
        have HR6 := Lib.hid hr6
        have HX6 := Lib.hid (HX5.out.trans ho6 (fun _ _ h => h) (fun i hi e => by have := HR5.out.base i e; have := HBS.out; omega))
        clear hr6 ho6
        go_wp2_with fail
        go_ret2
        exact HFIN.out _ _ ⟨_, _, rfl, by rw [HO.out]; exact rowDown HR6.out HBS.out.1, .inl ⟨HN0.out, rfl⟩, HX6.out⟩
  · have HN0 := Lib.hid h0
    have HO : Hid (O = []) := Lib.hid (by rw [hO]; exact if_pos h0)
    clear h0 hO
    go_enter Tryz.func200, Tryz.ntmps200
    go_wp2_with fail
    refine HSH.out.mono ?_
    rintro e w1 ⟨ev, rfl, he, ho⟩
    obtain ⟨t, p, rfl⟩ := he.some HN0.out
    have HX1 := Lib.hid ho
    have HEE := Lib.hid he
    clear he ho
    go_wp2_with fail
    go_ret2
    exact HFIN.out _ _ ⟨_, _, rfl, by rw [HO.out]; exact Row.nil _ _, HEE.out, HX1.out⟩
end Go.Proofs.YtnmhaipjfpongacGreatDoor
