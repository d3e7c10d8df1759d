/- graph.Cycle. No condition but how the rules lie, their lengths, and what the variables hold. -/
import Derived.Test.YtnmhaipjfpongabGreatDoorG6x
import Derived.Test.YtnmhaipjfpongabGreatDoorG4x
namespace Go.Proofs.YtnmhaipjfpongabGreatDoor
open Go.ChangeShapes Go.WideShapes Go.ChangeAt Go.RowKit

theorem enters_Cycle1 : ∀ args w, (callFunc 114 args).run Tryz.prog w = .ok (.enter 114 args) w := fun args w => by kernel_rfl

theorem Cycle1_test (w : World) (b7 b9 fb n : Nat) (f : Nat → Int) (left : Int) (j : Nat) (hj : j < n) (hb : w.cell? ⟨b7, 0, none⟩ = some (.slice (some ⟨fb, 0, none⟩) n n)) (ht : TabAt w fb 3 n (fun k => I (f k))) (h9 : w.cell? ⟨b9, 0, none⟩ = some (I left)) :
    Calls Tryz.prog 114 #[I j, .pointer (some ⟨b7, 0, none⟩), .pointer (some ⟨b9, 0, none⟩)] w (RetE (.bool (f j == left)) w) := by
  have hc := ht.cell hj
  have hjz : (j : Int) < (n : Int) := by omega
  have hj0 : (0 : Int) ≤ (j : Int) := by omega
  generalize f j = x at *
  obtain ⟨q, hq⟩ : ∃ q, (x == left) = q := ⟨_, rfl⟩
  rw [hq]
  clear ht
  go_enter Tryz.func114, Tryz.ntmps114
  go_wp2_with fail
  go_quiet (fail)
  go_wp2_with fail
  go_ret
  exact ⟨rfl, Only.drewN _ _ _⟩

theorem edge_le (n : Nat) (nd : Nat → Nat → Bool) (k : Nat) : (edgeB n nd k).length ≤ n := by
  unfold edgeB
  have := List.length_filter_le (nd k) (List.range n)
  rw [List.length_range] at this
  exact this

/-! ### the way round -/
theorem FarOk.least {n : Nat} {nd : Nat → Nat → Bool} {tg : Nat} {f : Nat → Int} (h : FarOk n nd tg f) : ∀ j < n, ∀ m : Nat, f j = (m : Int) → Least nd tg j m := fun j hj m e => by
  rcases h j hj with ⟨h1, _⟩ | ⟨m', h1, _, h2⟩
  · omega
  · have : m = m' := by omega
    rw [this]; exact h2
theorem FarOk.at_ {n : Nat} {nd : Nat → Nat → Bool} {tg : Nat} {f : Nat → Int} (h : FarOk n nd tg f) : ∀ j < n, ∀ m, Least nd tg j m → f j = (m : Int) := fun j hj m e => by
  rcases h j hj with ⟨_, h1⟩ | ⟨m', h1, _, h2⟩
  · exact absurd e.2.1 (h1 m e.1)
  · rw [h1, h2.unique e]

theorem idx_map {α β : Type} (g : α → β) (p : β → Bool) (l : List α) : idx p (l.map g) = idx (fun x => p (g x)) l := by
  unfold idx
  rw [List.findIdx?_map]
  rfl
theorem find_idx {α : Type} {p : α → Bool} {l : List α} {x : α} (h : l.find? p = some x) : ∃ k : Nat, idx p l = k ∧ l[k]? = some x := by
  cases hf : l.findIdx? p with
  | none =>
    rw [List.findIdx?_eq_none_iff] at hf
    have h1 := List.find?_some h
    rw [hf x (List.mem_of_find?_eq_some h)] at h1
    cases h1
  | some k =>
    refine ⟨k, by unfold idx; rw [hf], ?_⟩
    have h2 := hf
    rw [List.findIdx?_eq_some_iff_getElem] at h2
    obtain ⟨h3, h4, h5⟩ := h2
    rw [List.find?_eq_some_iff_getElem] at h
    obtain ⟨_, i, hi, h6, h7⟩ := h
    have : i = k := by
      rcases Nat.lt_trichotomy i k with e | e | e
      · have := h5 i e
        simp_all
      · exact e
      · have := h7 k e
        simp_all
    subst this
    rw [List.getElem?_eq_getElem hi, h6]

theorem way_step {n : Nat} {nd : Nat → Nat → Bool} {tg : Nat} {f : Nat → Int} (hnd : ∀ i j, nd i j = true → j < n) (h : FarOk n nd tg f) {left at_ : Nat} (hl : Least nd tg at_ (left + 1 + 1)) :
    ∃ (j k : Nat), idx (fun j => f j == ((left + 1 : Nat) : Int)) (edgeB n nd at_) = (k : Int) ∧ (edgeB n nd at_)[k]? = some j ∧ j < n ∧ Least nd tg j (left + 1) ∧ wayGo n nd f (left + 1) at_ = j :: wayGo n nd f left j := by
  obtain ⟨j, hj, hw⟩ := hl.step
  rcases hw with ⟨e, _⟩ | ⟨_, hlj⟩
  · omega
  have hjn := hnd at_ j hj
  have hp : (fun j => f j == ((left + 1 : Nat) : Int)) = (fun j => f j == ((left : Int) + 1)) := by funext j; push_cast; rfl
  rw [hp]
  cases hf : (edgeB n nd at_).find? (fun j => f j == ((left : Int) + 1)) with
  | none =>
    exfalso
    rw [List.find?_eq_none] at hf
    exact hf j (mem_edge.2 ⟨hjn, hj⟩) (beq_iff_eq.2 (by rw [h.at_ j hjn _ hlj]; push_cast; rfl))
  | some q =>
    obtain ⟨k, h1, h2⟩ := find_idx hf
    have hq := List.find?_some hf
    obtain ⟨hqn, hnq⟩ := mem_edge.1 (List.mem_of_find?_eq_some hf)
    rw [beq_iff_eq] at hq
    exact ⟨q, k, h1, h2, hqn, h.least q hqn (left + 1) (by rw [hq]; push_cast; rfl), by rw [wayGo, hf]⟩

/-- What Cycle tells of a right sheet. -/
def CycOk (n : Nat) (nd : Nat → Nat → Bool) (c : List Nat) : Prop :=
  (c = [] ∧ ∀ i < n, ∀ s, 1 ≤ s → ¬ Way nd i s i) ∨
  (∃ (i m : Nat) (f : Nat → Int), i < n ∧ (∀ j < i, ∀ s, 1 ≤ s → ¬ Way nd j s j) ∧ FarOk n nd i f ∧ f i = (m : Int) ∧ Least nd i i m ∧ c = i :: wayGo n nd f (m - 1) i)

def RetCyc (P : Nat → Addr) (l : List Rule) (w : World) (e : Ending) (w' : World) : Prop :=
  ∃ v ev c, e = .returned (.tuple #[v, ev]) ∧ RowI w.heap.size w' v c ∧ ErrAt w' P (sheetFault l) ev ∧ Ext w w' ∧ (((sheetFault l).1 ≠ 0 ∧ c = []) ∨ ((sheetFault l).1 = 0 ∧ CycOk l.length (needB l) c))

/-- The circle on its way. -/
structure CycAt (w wx : World) (n fb b7 b9 bs : Nat) (left : Int) (ov : Value) (f : Nat → Int) (c : List Nat) : Prop where
  ext : Ext w wx
  tab : TabAt wx fb 3 n (fun k => I (f k))
  box : wx.cell? ⟨b7, 0, none⟩ = some (.slice (some ⟨fb, 0, none⟩) n n)
  cnt : wx.heap[b9]? = some (.cells #[I left] 3 (0, 0))
  row : RowI bs wx ov c
  lo : w.heap.size ≤ bs ∧ fb < bs ∧ b7 < bs ∧ bs ≤ b9 ∧ bs ≤ wx.heap.size
  own : ov.ownBlock ≠ some b9

theorem CycAt.cell {w wx : World} {n fb b7 b9 bs : Nat} {left : Int} {ov : Value} {f : Nat → Int} {c : List Nat} (h : CycAt w wx n fb b7 b9 bs left ov f c) : wx.cell? ⟨b9, 0, none⟩ = some (I left) := (cell_of_heap h.cnt 0).trans rfl
theorem CycAt.grow {w wx w' : World} {n fb b7 b9 bs : Nat} {left : Int} {ov : Value} {f : Nat → Int} {c : List Nat} (h : CycAt w wx n fb b7 b9 bs left ov f c) (ho : Ext wx w') : CycAt w w' n fb b7 b9 bs left ov f c :=
  ⟨h.ext.then ho, h.tab.ext ho, ho.cellOf h.box (fun h => h), ho.heapOf h.cnt (fun h => h), h.row.ext ho, ⟨h.lo.1, h.lo.2.1, h.lo.2.2.1, h.lo.2.2.2.1, Nat.le_trans h.lo.2.2.2.2 ho.size⟩, h.own⟩
theorem CycAt.keep {w wx w' : World} {n fb b7 b9 bs : Nat} {left : Int} {ov : Value} {f : Nat → Int} {c : List Nat} (h : CycAt w wx n fb b7 b9 bs left ov f c) (hg : wx.grownBy w' ov.ownBlock) : w'.cell? ⟨b9, 0, none⟩ = some (I left) :=
  (Only.of_grown hg).cellOf h.cell (fun e => h.own e)
theorem CycAt.next {w wx w5 : World} {n fb b7 b9 bs : Nat} {left left' : Int} {ov ov' : Value} {f : Nat → Int} {c c' : List Nat} (h : CycAt w wx n fb b7 b9 bs left ov f c) (hg : wx.grownBy w5 ov.ownBlock) (hr : RowI bs w5 ov' c') :
    CycAt w (w5.alloc (.cells #[I left'] 3 (0, 0))) n fb b7 w5.heap.size bs left' ov' f c' := by
  obtain ⟨l1, l2, l3, l4, l5⟩ := h.lo
  have ho : Only (fun b => ov.ownBlock = some b) wx w5 := Only.of_grown hg
  have hb : ∀ b, ov.ownBlock = some b → bs ≤ b := h.row.base
  have hfin : Ext w5 (w5.alloc (.cells #[I left'] 3 (0, 0))) := Only.alloc _ _ _
  have h5 := ho.size
  have hx := h.ext.size
  exact ⟨(h.ext.trans ho (fun _ _ h => h) (fun i hi e => by have := hb i e; omega)).then hfin, (h.tab.later ho (fun e => by have := hb _ e; omega)).ext hfin, hfin.cellOf (ho.cellOf h.box (fun e => by have := hb _ e; dsimp at this; omega)) (fun h => h), (MapKept.heap_alloc w5 _).1, hr.ext hfin, ⟨l1, l2, l3, by omega, Nat.le_trans (Nat.le_trans l5 h5) hfin.size⟩, fun e => by have := (hr.lt _ e).2; omega⟩

theorem lit_row (W : World) (k : Nat) : RowI W.heap.size (W.alloc (.cells #[IN k] 3 (0, 0))) (.slice (some ⟨W.heap.size, 0, none⟩) 1 1) [k] :=
  ⟨by simp, .inr ⟨W.heap.size, 1, _, rfl, Nat.le_refl _, (MapKept.heap_alloc W _).1, Nat.le_refl _, by decide, rfl, rfl⟩⟩

theorem CycAt.start {w W : World} {n fb b7 i : Nat} {left : Int} {f : Nat → Int} (hx : Ext w W) (ht : TabAt W fb 3 n (fun k => I (f k))) (hb : W.cell? ⟨b7, 0, none⟩ = some (.slice (some ⟨fb, 0, none⟩) n n)) :
    CycAt w ((W.alloc (.cells #[IN i] 3 (0, 0))).alloc (.cells #[I left] 3 (0, 0))) n fb b7 (W.heap.size + 1) W.heap.size left (.slice (some ⟨W.heap.size, 0, none⟩) 1 1) f [i] := by
  have a1 : Ext W (W.alloc (.cells #[IN i] 3 (0, 0))) := Only.alloc _ _ _
  have a2 : Ext (W.alloc (.cells #[IN i] 3 (0, 0))) ((W.alloc (.cells #[IN i] 3 (0, 0))).alloc (.cells #[I left] 3 (0, 0))) := Only.alloc _ _ _
  have h2 := MapKept.heap_alloc (W.alloc (.cells #[IN i] 3 (0, 0))) (.cells #[I left] 3 (0, 0))
  have hs : (W.alloc (.cells #[IN i] 3 (0, 0))).heap.size = W.heap.size + 1 := by simp
  rw [hs] at h2
  have hl := lt_of_cell hb
  exact ⟨(hx.then a1).then a2, (ht.ext a1).ext a2, a2.cellOf (a1.cellOf hb (fun h => h)) (fun h => h), h2.1, (lit_row W i).ext a2, ⟨hx.size, ht.lt, hl, by omega, by simp; omega⟩, fun e => by have e2 : W.heap.size = W.heap.size + 1 := Option.some.inj e; omega⟩

theorem needB_right (l : List Rule) : ∀ i j, needB l i j = true → j < l.length := fun _ _ h => (needB_lt h).2

set_option maxRecDepth 100000 in
set_option maxHeartbeats 4000000 in
theorem graphCycle_any (w : World) (P : Nat → Addr) (l : List Rule) (v : Value) (hv : RdR w v l) (hs : ∀ r ∈ l, RuleSm 900000 r) (hV : PV w P [1, 2, 3, 4, 6, 9]) :
    Calls Tryz.prog 47 #[v] w (RetCyc P l w) := by
  have HSH := Lib.hid (sheet_any w P l v hv hs hV)
  have HRD := Lib.hid hv
  have HSM := Lib.hid (fun r hr => (hs r hr).many)
  obtain ⟨a, cap, rfl, _, _, _⟩ := hv
  clear hV hs
  by_cases h0 : (sheetFault l).1 = 0
  · have HR := Lib.hid (sheet_ok.1 h0)
    have HE := Lib.hid (fun W (hW : Ext w W) => edges_any W l _ (HRD.out.ext hW) HR.out HSM.out)
    have HN0 := Lib.hid h0
    have h40 := HR.out.1
    have HND := Lib.hid (needB_right l)
    obtain ⟨nd, hnd⟩ : ∃ nd, nd = needB l := ⟨_, rfl⟩
    obtain ⟨n, hn⟩ : ∃ n, n = l.length := ⟨_, rfl⟩
    have HFIN : Hid (∀ e w', (∃ v ev c, e = .returned (.tuple #[v, ev]) ∧ RowI w.heap.size w' v c ∧ ev = .nilIface ∧ Ext w w' ∧ CycOk n nd c) → RetCyc P l w e w') := Lib.hid (by
      rintro e w' ⟨v, ev, c, h1, h2, rfl, h4, h5⟩
      rw [hnd, hn] at h5
      exact ⟨v, _, c, h1, h2, .inl ⟨h0, rfl⟩, h4, .inr ⟨h0, h5⟩⟩)
    rw [← hnd, ← hn] at HE HND
    rw [← hn] at h40 HSH ⊢
    have hnz : (n : Int) ≤ 40 := by omega
    clear h0 hnd hn
    go_enter Tryz.func47, Tryz.ntmps47
    go_wp2_with fail
    refine HSH.out.mono ?_
    rintro e w1 ⟨ev, rfl, he, ho⟩
    obtain rfl := he.zero HN0.out
    have HX1 := Lib.hid ho
    clear he ho
    go_wp2_with fail
    refine (HE.out w1 HX1.out).mono ?_
    rintro e w2 ⟨v2, rfl, hll, ho⟩
    have HX2 := Lib.hid (HX1.out.then ho)
    have HLL := Lib.hid hll
    clear hll ho
    have hc := HLL.out
    obtain ⟨a2, c2, rfl, hcap, hml, hc⟩ := hc
    have HC : Hid (∀ i, i < n → ∃ b off u, a2 = some ⟨b, off, none⟩ ∧ Rd IN w2 u (edgeB n nd i) ∧ w2.cell? ⟨b, off + i, none⟩ = some u) := Lib.hid (fun i hi => by
      obtain ⟨b, off, h1, h2⟩ := hc (fun e => by have := congrArg List.length e; simp at this; omega)
      obtain ⟨u, h3, h4⟩ := h2 i (edgeB n nd i) (by rw [List.getElem?_map, List.getElem?_range hi]; rfl)
      exact ⟨b, off, u, h1, h3, h4⟩)
    rw [List.length_map, List.length_range] at HLL ⊢
    clear hc hcap hml
    go_wp2_with fail
    go_loopw [6, 7, 8, 9, 10, 11, 21] (fun _ _ _ _ _ _ i wr => ∃ j : Nat, j ≤ n ∧ i = .int .i64 j ∧ Hid (∀ t < j, ∀ s, 1 ≤ s → ¬ Way nd t s t) ∧ Hid (Ext w2 wr)) (fun _ _ _ _ _ _ i _ => n - (intOf i).toNat)
    case atStart => exact ⟨0, Nat.zero_le _, rfl, Lib.hid (fun t ht => by omega), Lib.hid (Only.refl _ _)⟩
    case round =>
      obtain ⟨j, hj, rfl, HNC, HX⟩ := hrel
      by_cases hlt : j < n
      · have hltz : (j : Int) < (n : Int) := by omega
        have hj0 : (0 : Int) ≤ (j : Int) := by omega
        go_wp2_with fail
        refine (far_any wr _ n nd j (by omega) HND.out (HLL.out.ext HX.out)).mono ?_
        rintro e w3 ⟨fb, f, rfl, htab, hfar, hfb, ho⟩
        have HX3 := Lib.hid (HX.out.then ho)
        have HT := Lib.hid htab
        have HFO := Lib.hid hfar
        clear htab hfar hfb ho
        rcases HFO.out j hlt with ⟨hm1, hno⟩ | ⟨m, hmf, hmn, hlst⟩
        · have HNO := Lib.hid hno
          have HNC2 : Hid (∀ t < j + 1, ∀ s, 1 ≤ s → ¬ Way nd t s t) := Lib.hid (fun t ht => by
            rcases Nat.lt_succ_iff_lt_or_eq.1 ht with h | rfl
            · exact HNC.out t h
            · exact HNO.out)
          have c0 : w3.cell? ⟨fb, j, none⟩ = some (I (-1)) := by rw [HT.out.cell hlt, hm1]
          have c1 := (Only.alloc (fun _ => False) w3 (.cells #[.slice (some ⟨fb, 0, none⟩) n n] 63 (0, 0))).cellOf c0 (fun h => h)
          clear hm1 hno hlt
          go_wp2_with fail
          go_roundw
          case rel => exact ⟨j + 1, by omega, by go_num, HNC2, Lib.hid (HX3.out.thenAlloc _)⟩
          case measure => simp [intOf]; omega
        · obtain ⟨m, rfl⟩ : ∃ k, m = k + 1 := ⟨m - 1, by have := hlst.1; omega⟩
          have HLS := Lib.hid hlst
          have HMF := Lib.hid hmf
          have HCY : Hid (CycOk n nd (j :: wayGo n nd f m j)) := Lib.hid (.inr ⟨j, m + 1, f, hlt, HNC.out, HFO.out, hmf, hlst, rfl⟩)
          obtain ⟨x, hx⟩ : ∃ x, x = f j := ⟨_, rfl⟩
          have c0 : w3.cell? ⟨fb, j, none⟩ = some (I x) := by rw [HT.out.cell hlt, hx]
          have c1 := (Only.alloc (fun _ => False) w3 (.cells #[.slice (some ⟨fb, 0, none⟩) n n] 63 (0, 0))).cellOf c0 (fun h => h)
          have c2 := (Only.alloc (fun _ => False) (w3.alloc (.cells #[.slice (some ⟨fb, 0, none⟩) n n] 63 (0, 0))) (.cells #[IN j] 3 (0, 0))).cellOf c1 (fun h => h)
          have HS0 := Lib.hid (CycAt.start (i := j) (left := (m : Int)) (HX3.out.thenAlloc (.cells #[.slice (some ⟨fb, 0, none⟩) n n] 63 (0, 0))) (HT.out.ext (Only.alloc _ _ _)) ((cell_of_heap (MapKept.heap_alloc w3 (.cells #[.slice (some ⟨fb, 0, none⟩) n n] 63 (0, 0))).1 0).trans rfl))
          rw [show (w3.alloc (.cells #[.slice (some ⟨fb, 0, none⟩) n n] 63 (0, 0))).heap.size = w3.heap.size + 1 by simp] at HS0
          have hx0 : decide (x < 0) = false := decide_eq_false (by rw [hx, hmf]; omega)
          have hwr : IntKind.i64.wrap (x - 1) = (m : Int) := by
            rw [hx, hmf, IntWalk.i64_in _ (by omega)]
            push_cast
            omega
          have hmz : (m : Int) ≤ 41 := by omega
          have hjz : (j : Int) < 41 := by omega
          have HJ0 : Hid (j < n ∧ m ≤ n) := Lib.hid ⟨hlt, by omega⟩
          clear hmf hlst hx hlt
          go_wp2_with fail
          obtain ⟨b7, hb7⟩ : ∃ b7, b7 = w3.heap.size := ⟨_, rfl⟩
          obtain ⟨bs, hbs⟩ : ∃ bs, bs = w3.heap.size + 1 := ⟨_, rfl⟩
          obtain ⟨b9, hb9⟩ : ∃ b9, b9 = w3.heap.size + 1 + 1 := ⟨_, rfl⟩
          rw [← hb9, ← hbs, ← hb7] at HS0
          rw [← hb9, ← hbs, ← hb7]
          generalize (((w3.alloc (.cells #[.slice (some ⟨fb, 0, none⟩) n n] 63 (0, 0))).alloc (.cells #[IN j] 3 (0, 0))).alloc (.cells #[I m] 3 (0, 0))) = wq at HS0 ⊢
          have HW0 : Hid (j :: wayGo n nd f m j = [j] ++ wayGo n nd f m j) := Lib.hid rfl
          obtain ⟨CY, hCY⟩ : ∃ CY, CY = j :: wayGo n nd f m j := ⟨_, rfl⟩
          rw [← hCY] at HCY HW0
          clear hb7 hbs hb9 hCY c0 c1 c2 hx0 hwr
          go_loopw [8, 9, 10, 11] (fun ov p at_ _ wx => ∃ (left i b9 : Nat) (qv : Value) (c : List Nat), qv = ov ∧ p = .pointer (some ⟨b9, 0, none⟩) ∧ at_ = .int .i64 i ∧ left ≤ n ∧ i < n ∧ c.length + left ≤ n + 1 ∧ Hid (CycAt w2 wx n fb b7 b9 bs (left : Int) qv f c) ∧ Hid (Least nd j i (left + 1)) ∧ Hid (CY = c ++ wayGo n nd f left i)) (fun ov _ _ _ _ => match ov with | .slice _ k _ => n + 2 - k | _ => 0)
          case atStart => exact ⟨m, j, b9, _, [j], rfl, rfl, rfl, HJ0.out.2, HJ0.out.1, by have := HJ0.out.2; simp; omega, HS0, HLS, HW0⟩
          case round =>
            clear HS0 HLS HW0
            obtain ⟨left, i, b9, qv, c, rfl, rfl, rfl, hln, hin, hcl, HS, HLS, HW⟩ := hrel
            obtain ⟨aq, cq, hqf, _, _, _⟩ := HS.out.row.rd
            subst hqf
            have c0 := HS.out.cell
            cases left with
            | zero =>
              have HWE : Hid (CY = c) := Lib.hid (by rw [HW.out]; exact List.append_nil c)
              have HBS : Hid (w.heap.size ≤ bs) := Lib.hid (Nat.le_trans HX2.out.size HS.out.lo.1)
              go_wp2_with fail
              go_ret2
              exact HFIN.out _ _ ⟨_, _, c, rfl, HS.out.row.down HBS.out, rfl, HX2.out.then HS.out.ext, by rw [← HWE.out]; exact HCY.out⟩
            | succ left =>
              have hiz : (i : Int) < (n : Int) := by omega
              have hi0 : (0 : Int) ≤ (i : Int) := by omega
              have hlz : (0 : Int) < ((left : Int) + 1) := by omega
              have hlb : (left : Int) ≤ 41 := by omega
              obtain ⟨b, off, u, rfl, hu, hcell⟩ := HC.out i hin
              obtain ⟨j', k, hk1, hk2, hj', hl', hw'⟩ := way_step HND.out HFO.out HLS.out
              have d0 := HS.out.ext.cellOf hcell (fun h => h)
              have hif := indexFunc_I2 114 (.pointer (some ⟨b7, 0, none⟩)) (.pointer (some ⟨b9, 0, none⟩)) (fun x => f x.toNat == ((left + 1 : Nat) : Int)) wr u ((edgeB n nd i).map fun k : Nat => (k : Int)) (Rd.ints (hu.ext HS.out.ext)) enters_Cycle1 (fun w4 h4 x hx => by
                obtain ⟨q, hq, rfl⟩ := List.mem_map.1 hx
                rw [Int.toNat_natCast]
                exact Cycle1_test w4 b7 b9 fb n f _ q (mem_edge.1 hq).1 (HS.out.grow h4).box (HS.out.grow h4).tab (HS.out.grow h4).cell)
              rw [idx_map, show (fun x : Nat => f (x : Int).toNat == ((left + 1 : Nat) : Int)) = (fun j => f j == ((left + 1 : Nat) : Int)) from by funext q; rw [Int.toNat_natCast], hk1] at hif
              have HIF := Lib.hid hif
              have HL2 := Lib.hid hl'
              have HW2 : Hid (CY = (c ++ [j']) ++ wayGo n nd f left j') := Lib.hid (by rw [HW.out, hw', List.append_assoc]; rfl)
              have HKE := Lib.hid hk2
              have HU := Lib.hid (hu.ext HS.out.ext)
              have hwr : IntKind.i64.wrap ((left : Int) + 1 - 1) = (left : Int) := by rw [IntWalk.i64_in _ (by omega)]; omega
              have hkl : k < (edgeB n nd i).length := (List.getElem?_eq_some_iff.1 hk2).1
              have hel := edge_le n nd i
              obtain ⟨au, cu, hua, _, _, hue⟩ := hu
              obtain ⟨bu, ou, hub, hce⟩ := hue (by intro e; rw [e] at hkl; simp at hkl)
              subst hub
              obtain ⟨el, hel2⟩ : ∃ el, el = (edgeB n nd i).length := ⟨_, rfl⟩
              rw [← hel2] at hua hkl hel
              subst hua
              have e0 := HS.out.ext.cellOf (hce k j' hk2) (fun h => h)
              have hkz : (k : Int) < (el : Int) := by omega
              have hk0 : (0 : Int) ≤ (k : Int) := by omega
              clear hif hk1 hk2 hl' hw' hcell hce hel2 HLS HW HU HKE
              go_wp2_with fail
              refine (HIF.out).mono ?_
              rintro e w4 ⟨rfl, ho⟩
              have HS4 := Lib.hid (HS.out.grow ho)
              have HHO := Lib.hid ho
              clear ho
              have f0 := HHO.out.cellOf d0 (fun h => h)
              have f1 := HHO.out.cellOf e0 (fun h => h)
              have f2 := HS4.out.cell
              go_wp2_with (at_builtin; refine wpNum rfl (.tmp 57) (.tmp 59) w2 bs _ c j' w4 rfl rfl rfl rfl HS4.out.row (by omega) HS4.out.lo.2.2.2.2 HS4.out.ext HS4.out.lo.1 ?_; intro g5 cap5 w5 HR5 _ HG5; have g0 := HS4.out.keep HG5.out; have HS5 := Lib.hid (HS4.out.next (left' := (left : Int)) HG5.out HR5.out))
              go_roundw
              case rel => exact ⟨left, j', _, _, c ++ [j'], rfl, rfl, rfl, by omega, hj', by rw [List.length_append, List.length_singleton]; omega, HS5, HL2, HW2⟩
              case measure => simp; omega
      · have hltz : ¬ (j : Int) < (n : Int) := by omega
        obtain rfl : j = n := by omega
        go_wp2_with fail
        go_ret2
        exact HFIN.out _ _ ⟨_, _, [], rfl, RowI.nil _ _, rfl, HX2.out.then HX.out, .inl ⟨rfl, HNC.out⟩⟩
  · have HN0 := Lib.hid h0
    clear h0
    go_enter Tryz.func47, Tryz.ntmps47
    go_wp2_with fail
    refine HSH.out.mono ?_
    rintro e w1 ⟨ev, rfl, he, ho⟩
    obtain ⟨t, p, rfl⟩ := he.some HN0.out
    have HX1 := Lib.hid ho
    have HEE := Lib.hid he
    clear he ho
    go_wp2_with fail
    go_ret2
    exact ⟨_, _, [], rfl, RowI.nil _ _, HEE.out, HX1.out, .inl ⟨HN0.out, rfl⟩⟩
end Go.Proofs.YtnmhaipjfpongabGreatDoor
