/- graph.far: how many steps each is from a place. No condition but how the edges lie. -/
import Derived.Test.YtnmhaipjfpongabGreatDoorG5x
namespace Go.Proofs.YtnmhaipjfpongabGreatDoor
open Go.ChangeShapes Go.WideShapes Go.ChangeAt Go.RowKit

theorem enters_far1 : ∀ args w, (callFunc 186 args).run Tryz.prog w = .ok (.enter 186 args) w := fun args w => by kernel_rfl

theorem any_nat (l : List Nat) (j : Nat) : (l.map fun k : Nat => (k : Int)).any (fun y => (j : Int) == y) = l.contains j := by
  rw [Bool.eq_iff_iff, List.any_eq_true, List.contains_eq_mem, decide_eq_true_eq]
  constructor
  · rintro ⟨x, hx, e⟩
    obtain ⟨k, hk, rfl⟩ := List.mem_map.1 hx
    rw [beq_iff_eq] at e
    have : j = k := by omega
    rw [this]; exact hk
  · intro h
    exact ⟨(j : Int), List.mem_map.2 ⟨j, h, rfl⟩, beq_iff_eq.2 rfl⟩

theorem far1_test (w : World) (bx : Nat) (lv : Value) (l : List Nat) (j : Nat) (hb : w.cell? ⟨bx, 0, none⟩ = some lv) (hr : Rd IN w lv l) :
    Calls Tryz.prog 186 #[I j, .pointer (some ⟨bx, 0, none⟩)] w (RetE (.bool (l.contains j)) w) := by
  have HI := Lib.hid (containsI_any w lv _ (j : Int) hr.ints)
  rw [any_nat] at HI
  generalize l.contains j = q at HI ⊢
  obtain ⟨a, cap, rfl, _, _, _⟩ := hr
  go_enter Tryz.func186, Tryz.ntmps186
  go_wp2_with fail
  refine (HI.out).mono ?_
  rintro e w1 ⟨rfl, rfl⟩
  go_wp2_with fail
  go_ret
  exact ⟨rfl, Only.refl _ _⟩

/-- The values of far on its way. -/
def fv (out : List Int) (i : Nat) : Int := (out[i]?).getD 0
theorem fv_at {out : List Int} {i : Nat} (h : i < out.length) : out[i]? = some (fv out i) := by
  unfold fv
  rw [List.getElem?_eq_getElem h]
  rfl
theorem farNext_eq {n : Nat} {nd : Nat → Nat → Bool} {out : List Int} {l : List Nat} {i : Nat} (hl : out.length = n) (hi : i < n) : farNext n nd out l i = (decide (fv out i < 0) && (edgeB n nd i).any fun j => l.contains j) := by
  unfold farNext
  rw [fv_at (by omega)]
theorem farSet_fv {n : Nat} {nd : Nat → Nat → Bool} {out : List Int} {l : List Nat} {step i : Nat} (hi : i < n) : fv (farSet n nd out l step) i = if farNext n nd out l i then (step : Int) else fv out i := by
  show ((farSet n nd out l step)[i]?).getD 0 = _
  unfold farSet
  rw [List.getElem?_map, List.getElem?_range hi]
  rfl
theorem filter_step (p : Nat → Bool) (i : Nat) : (List.range (i + 1)).filter p = (List.range i).filter p ++ (if p i then [i] else []) := by
  rw [List.range_succ, List.filter_append]
  congr 1
  cases h : p i <;> simp [List.filter, h]

/-- What is known of each place in the end. -/
def FarOk (n : Nat) (nd : Nat → Nat → Bool) (tg : Nat) (f : Nat → Int) : Prop := ∀ i, i < n → (f i = -1 ∧ ∀ s, 1 ≤ s → ¬ Way nd tg s i) ∨ (∃ m : Nat, f i = (m : Int) ∧ m ≤ n + 1 ∧ Least nd tg i m)
theorem FarOk.of {n : Nat} {nd : Nat → Nat → Bool} {tg step : Nat} {out : List Int} (h : Fars n nd tg step out []) (hnd : ∀ i j, nd i j = true → j < n) (hs : step ≤ n + 2) : FarOk n nd tg (fv out) := fun i hi => by
  have h0 := fv_at (out := out) (i := i) (by rw [h.len]; exact hi)
  rcases h.whole hnd i _ h0 with h1 | ⟨m, h1, h2⟩
  · exact .inl h1
  · rcases h.val i _ h0 with h3 | ⟨m', h3, h4, _⟩
    · have := h3.1; omega
    · exact .inr ⟨m, h1, by omega, h2⟩

/-- far's table, its box and the last ones. -/
structure FarAt (w wr : World) (n ob bx bs : Nat) (lv : Value) (f : Nat → Int) (l : List Nat) : Prop where
  ext : Ext w wr
  tab : TabAt wr ob 3 n (fun k => I (f k))
  box : wr.heap[bx]? = some (.cells #[lv] 63 (0, 0))
  rd : Rd IN wr lv l
  lo : w.heap.size ≤ ob ∧ w.heap.size ≤ bx ∧ ob < bs ∧ bx < bs ∧ bs ≤ wr.heap.size ∧ ob ≠ bx
  own : ∀ b, lv.ownBlock = some b → b < bs ∧ b ≠ ob ∧ b ≠ bx

theorem FarAt.boxc {w wr : World} {n ob bx bs : Nat} {lv : Value} {f : Nat → Int} {l : List Nat} (h : FarAt w wr n ob bx bs lv f l) : wr.cell? ⟨bx, 0, none⟩ = some lv := (cell_of_heap h.box 0).trans rfl
theorem FarAt.later {w wr w' : World} {n ob bx bs : Nat} {lv : Value} {f : Nat → Int} {l : List Nat} {p : Nat → Prop} (h : FarAt w wr n ob bx bs lv f l) (ho : Only p wr w') (hp : ∀ b, p b → bs ≤ b) : FarAt w w' n ob bx bs lv f l := by
  obtain ⟨l1, l2, l3, l4, l5, l6⟩ := h.lo
  exact ⟨h.ext.trans ho (fun _ _ h => h) (fun i hi e => by have := hp i e; omega), h.tab.later ho (fun e => by have := hp _ e; omega), ho.heapOf h.box (fun e => by have := hp _ e; omega), h.rd.later ho (fun b hb e => by have := hp b e; have := (h.own b hb).1; omega), ⟨l1, l2, l3, l4, Nat.le_trans l5 ho.size, l6⟩, h.own⟩
theorem FarAt.grow {w wr w' : World} {n ob bx bs : Nat} {lv : Value} {f : Nat → Int} {l : List Nat} (h : FarAt w wr n ob bx bs lv f l) (ho : Ext wr w') : FarAt w w' n ob bx bs lv f l := h.later ho (fun _ h => h.elim)
theorem FarAt.rise {w wr : World} {n ob bx bs : Nat} {lv : Value} {f : Nat → Int} {l : List Nat} (h : FarAt w wr n ob bx bs lv f l) : FarAt w wr n ob bx wr.heap.size lv f l := by
  obtain ⟨l1, l2, l3, l4, l5, l6⟩ := h.lo
  exact ⟨h.ext, h.tab, h.box, h.rd, ⟨l1, l2, by omega, by omega, Nat.le_refl _, l6⟩, fun b hb => ⟨by have := (h.own b hb).1; omega, (h.own b hb).2⟩⟩
theorem FarAt.set {w wr : World} {n ob bx bs : Nat} {lv : Value} {f : Nat → Int} {l : List Nat} (h : FarAt w wr n ob bx bs lv f l) (k : Nat) (x : Int) : FarAt w (wr.setCell ⟨ob, k, none⟩ (I x)) n ob bx bs lv (fun i => if i = k then x else f i) l := by
  obtain ⟨l1, l2, l3, l4, l5, l6⟩ := h.lo
  have hs : Only (fun b => b = ob) wr (wr.setCell ⟨ob, k, none⟩ (I x)) := Only.set _ rfl
  refine ⟨h.ext.trans hs (fun _ _ h => h) (fun i hi e => by omega), (h.tab.set k (I x)).congr fun i _ => ?_, hs.heapOf h.box (fun e => l6 e.symm), h.rd.later hs (fun b hb e => (h.own b hb).2.1 e), ⟨l1, l2, l3, l4, Nat.le_trans l5 hs.size, l6⟩, h.own⟩
  by_cases e : i = k
  · rw [if_pos e, if_pos e]
  · rw [if_neg e, if_neg e]
theorem FarAt.congr {w wr : World} {n ob bx bs : Nat} {lv : Value} {f g : Nat → Int} {l : List Nat} (h : FarAt w wr n ob bx bs lv f l) (hfg : ∀ i, i < n → f i = g i) : FarAt w wr n ob bx bs lv g l :=
  ⟨h.ext, h.tab.congr fun k hk => by rw [hfg k hk], h.box, h.rd, h.lo, h.own⟩
theorem Only.heapSize {w : World} {a : Addr} {u : Value} : (w.setCell a u).heap.size = w.heap.size := by
  simp [World.setCell]
/-- The next ones are the last ones now, in a box of their own. -/
theorem FarAt.next {w wr : World} {n ob bx bs : Nat} {lv nv : Value} {f : Nat → Int} {l l' : List Nat} (h : FarAt w wr n ob bx bs lv f l) (hr : RowI bs wr nv l') (W : World) (hW : W = wr.setCell ⟨bx, 0, none⟩ nv) :
    FarAt w (W.alloc (.cells #[nv] 63 (0, 0))) n ob wr.heap.size (wr.heap.size + 1) nv f l' := by
  have hH : wr.heap.size = W.heap.size := by rw [hW, Only.heapSize]
  rw [hH]
  obtain ⟨l1, l2, l3, l4, l5, l6⟩ := h.lo
  have hs : Only (fun b => b = bx) wr W := by rw [hW]; exact Only.set _ rfl
  have ha : Ext W (W.alloc (.cells #[nv] 63 (0, 0))) := Only.alloc _ _ _
  have hr2 : RowI bs W nv l' := hs.row hr (fun b hb e => by have := hr.base b hb; omega)
  have hsz := hs.size
  have hx : Ext w W := h.ext.trans hs (fun _ _ h => h) (fun i hi e => by omega)
  refine ⟨hx.then ha, (h.tab.later hs l6).ext ha, (MapKept.heap_alloc W _).1, (hr2.ext ha).rd, ⟨l1, hx.size, by omega, by omega, by simp, by omega⟩, fun b hb => ?_⟩
  have h1 := hr2.lt b hb
  exact ⟨by omega, by omega, by omega⟩

theorem lit_rdG (w : World) (x : Int) : Rd I (w.alloc (.cells #[I x] 3 (0, 0))) (.slice (some ⟨w.heap.size, 0, none⟩) 1 1) [x] := by
  refine ⟨_, 1, rfl, by simp, by decide, fun _ => ⟨w.heap.size, 0, rfl, fun i y hy => ?_⟩⟩
  obtain ⟨h1, h2⟩ := List.getElem?_eq_some_iff.1 hy
  obtain rfl : i = 0 := by simpa using h1
  rw [cell_of_heap (MapKept.heap_alloc w _).1, ← h2]
  rfl
theorem lit_rdN (w : World) (k : Nat) : Rd IN (w.alloc (.cells #[IN k] 3 (0, 0))) (.slice (some ⟨w.heap.size, 0, none⟩) 1 1) [k] := by
  refine ⟨_, 1, rfl, by simp, by decide, fun _ => ⟨w.heap.size, 0, rfl, fun i y hy => ?_⟩⟩
  obtain ⟨h1, h2⟩ := List.getElem?_eq_some_iff.1 hy
  obtain rfl : i = 0 := by simpa using h1
  rw [cell_of_heap (MapKept.heap_alloc w _).1, ← h2]
  rfl

theorem FarAt.start {w w2 : World} {n ob tg : Nat} (hx : Ext w w2) (ht : TabAt w2 ob 3 n (fun _ => I (-1))) (hb : w.heap.size ≤ ob) :
    FarAt w ((w2.alloc (.cells #[IN tg] 3 (0, 0))).alloc (.cells #[.slice (some ⟨w2.heap.size, 0, none⟩) 1 1] 63 (0, 0))) n ob (w2.heap.size + 1) (w2.heap.size + 2) (.slice (some ⟨w2.heap.size, 0, none⟩) 1 1) (fun _ => -1) [tg] := by
  have a1 : Ext w2 (w2.alloc (.cells #[IN tg] 3 (0, 0))) := Only.alloc _ _ _
  have a2 : Ext (w2.alloc (.cells #[IN tg] 3 (0, 0))) ((w2.alloc (.cells #[IN tg] 3 (0, 0))).alloc (.cells #[.slice (some ⟨w2.heap.size, 0, none⟩) 1 1] 63 (0, 0))) := Only.alloc _ _ _
  have hlt := ht.lt
  have hsz := hx.size
  have h2 := MapKept.heap_alloc (w2.alloc (.cells #[IN tg] 3 (0, 0))) (.cells #[.slice (some ⟨w2.heap.size, 0, none⟩) 1 1] 63 (0, 0))
  have hs : (w2.alloc (.cells #[IN tg] 3 (0, 0))).heap.size = w2.heap.size + 1 := by simp
  rw [hs] at h2
  exact ⟨(hx.then a1).then a2, (ht.ext a1).ext a2, h2.1, (lit_rdN w2 tg).ext a2, ⟨hb, by omega, by omega, by omega, by simp, by omega⟩, fun b hb => by have e : w2.heap.size = b := Option.some.inj hb; exact ⟨by omega, by omega, by omega⟩⟩

def RetFar (n : Nat) (nd : Nat → Nat → Bool) (tg : Nat) (w : World) (e : Ending) (w' : World) : Prop :=
  ∃ b f, e = .returned (.slice (some ⟨b, 0, none⟩) n n) ∧ TabAt w' b 3 n (fun k => I (f k)) ∧ FarOk n nd tg f ∧ w.heap.size ≤ b ∧ Ext w w'

/-- The table behind the first t of the next ones. -/
def fset (nx : List Nat) (t : Nat) (step : Nat) (f : Nat → Int) (i : Nat) : Int := if i ∈ nx.take t then (step : Int) else f i
theorem fset_step {nx : List Nat} {t k step : Nat} {f : Nat → Int} (h : nx[t]? = some k) (i : Nat) : (if i = k then (step : Int) else fset nx t step f i) = fset nx (t + 1) step f i := by
  unfold fset
  rw [List.take_add_one, h]
  by_cases e : i = k
  · rw [if_pos e, e, if_pos (by simp)]
  · rw [if_neg e]
    congr 1
    simp [e]

set_option maxRecDepth 100000 in
set_option maxHeartbeats 4000000 in
theorem far_any (w : World) (v : Value) (n : Nat) (nd : Nat → Nat → Bool) (tg : Nat) (hn : n ≤ 1000) (hnd : ∀ i j, nd i j = true → j < n) (hv : RdLL w v ((List.range n).map (edgeB n nd))) :
    Calls Tryz.prog 112 #[v, I tg] w (RetFar n nd tg w) := by
  obtain ⟨a, cap, rfl, hcap, hml, hc⟩ := hv
  rw [List.length_map, List.length_range] at hcap
  have hnz : (n : Int) ≤ 1000 := by omega
  have HC : Hid (∀ i, i < n → ∃ b off u, a = some ⟨b, off, none⟩ ∧ Rd IN w u (edgeB n nd i) ∧ w.cell? ⟨b, off + i, none⟩ = some u) := Lib.hid (fun i hi => by
    obtain ⟨b, off, h1, h2⟩ := hc (fun e => by have := congrArg List.length e; simp at this; omega)
    obtain ⟨u, h3, h4⟩ := h2 i (edgeB n nd i) (by rw [List.getElem?_map, List.getElem?_range hi]; rfl)
    exact ⟨b, off, u, h1, h3, h4⟩)
  rw [List.length_map, List.length_range]
  have HRP := Lib.hid (repeat_any (w.alloc (.cells #[I (-1)] 3 (0, 0))) _ (-1) n hn (lit_rdG w (-1)))
  have HX0 : Hid (Ext w (w.alloc (.cells #[I (-1)] 3 (0, 0)))) := Lib.hid (Only.alloc _ _ _)
  have HND := Lib.hid hnd
  clear hnd
  clear hc hml
  go_enter Tryz.func112, Tryz.ntmps112
  go_wp2_with fail
  refine HRP.out.mono ?_
  rintro e w2 ⟨ob, rfl, htab, hob, hx⟩
  have HA0 := Lib.hid (FarAt.start (tg := tg) (HX0.out.then hx) htab (Nat.le_trans HX0.out.size hob))
  have HF0 := Lib.hid (Fars.start n nd tg)
  clear htab hob hx HRP HX0
  go_wp2_with fail
  obtain ⟨bx, hbx⟩ : ∃ bx, bx = w2.heap.size + 1 := ⟨_, rfl⟩
  obtain ⟨bs, hbs⟩ : ∃ bs, bs = w2.heap.size + 2 := ⟨_, rfl⟩
  obtain ⟨lv, hlv⟩ : ∃ lv, lv = Value.slice (some ⟨w2.heap.size, 0, none⟩) 1 1 := ⟨_, rfl⟩
  rw [← hlv] at HA0 ⊢
  generalize ((w2.alloc (.cells #[IN tg] 3 (0, 0))).alloc (.cells #[lv] 63 (0, 0))) = wq at HA0 ⊢
  rw [← hbx, ← hbs] at HA0
  rw [← hbx]
  have HA1 : Hid (FarAt w wq n ob bx bs lv (fv (List.replicate n (-1))) [tg]) := Lib.hid (HA0.out.congr fun i hi => by unfold fv; rw [List.getElem?_replicate, if_pos hi]; rfl)
  clear hbx hbs HA0 hlv
  go_loopw [6, 7, 8, 9, 11] (fun st p _ _ _ wr => ∃ (step bx bs : Nat) (lv : Value) (out : List Int) (l : List Nat), step ≤ n + 2 ∧ st = .int .i64 step ∧ p = .pointer (some ⟨bx, 0, none⟩) ∧ Hid (Fars n nd tg step out l) ∧ Hid (FarAt w wr n ob bx bs lv (fv out) l)) (fun st _ _ _ _ _ => n + 3 - (intOf st).toNat)
  case atStart => exact ⟨1, bx, bs, lv, _, _, by omega, rfl, rfl, HF0, HA1⟩
  case round =>
    clear HF0 HA1
    obtain ⟨step, bx, bs, lv, out, l, hsn, rfl, rfl, HF, HA⟩ := hrel
    have hlf := HA.out.rd
    obtain ⟨av, cv, rfl, hcv, hcm, _⟩ := hlf
    have b0 := HA.out.boxc
    by_cases hlt : 0 < l.length
    · have hltz : (0 : Int) < (l.length : Int) := by omega
      have hst := HF.out.ends HND.out (by intro e; rw [e] at hlt; simp at hlt)
      have hstz : (step : Int) ≤ 1001 := by omega
      have HAR := Lib.hid HA.out.rise
      obtain ⟨bq, hbq⟩ : ∃ bq, bq = wr.heap.size := ⟨_, rfl⟩
      rw [← hbq] at HAR
      have HBQ : Hid (w.heap.size ≤ bq) := Lib.hid (by have := HA.out.ext.size; omega)
      clear hcv hcm HA hbq
      go_wp2_with fail
      clear b0
      go_loopw [8, 9, 25] (fun nv _ i wx => ∃ j : Nat, j ≤ n ∧ i = .int .i64 j ∧ Hid (RowI bq wx nv ((List.range j).filter (farNext n nd out l))) ∧ Hid (FarAt w wx n ob bx bq (.slice av l.length cv) (fv out) l)) (fun _ _ i _ => n - (intOf i).toNat)
      case atStart => exact ⟨0, Nat.zero_le _, rfl, Lib.hid (RowI.nil _ _), HAR⟩
      case round =>
        clear HAR
        obtain ⟨j, hj, rfl, HR, HA⟩ := hrel
        by_cases hlt : j < n
        · have hltz : (j : Int) < (n : Int) := by omega
          have hj0 : (0 : Int) ≤ (j : Int) := by omega
          obtain ⟨b, off, u, rfl, hu, hcell⟩ := HC.out j hlt
          have c0 := HA.out.tab.cell hlt
          have c2 := HA.out.ext.cellOf hcell (fun h => h)
          have hfn := farNext_eq (nd := nd) (l := l) HF.out.len hlt
          have hfs := filter_step (farNext n nd out l) j
          have hfl : ((List.range j).filter (farNext n nd out l)).length ≤ j := by
            have := List.length_filter_le (farNext n nd out l) (List.range j)
            rw [List.length_range] at this
            exact this
          have HFL := Lib.hid hfl
          obtain ⟨fj, hfj⟩ : ∃ fj, fj = fv out j := ⟨_, rfl⟩
          rw [← hfj] at c0 hfn
          by_cases hneg : fj < 0
          · have hcf := containsFunc_I1 186 (.pointer (some ⟨bx, 0, none⟩)) (fun x => l.contains x.toNat) wr u ((edgeB n nd j).map fun k : Nat => (k : Int)) (Rd.ints (hu.ext HA.out.ext)) enters_far1 (fun w4 h4 x hx => by
              obtain ⟨k, hk, rfl⟩ := List.mem_map.1 hx
              rw [Int.toNat_natCast]
              exact far1_test w4 bx _ l k (HA.out.grow h4).boxc (HA.out.grow h4).rd)
            rw [List.any_map, show ((fun x : Int => l.contains x.toNat) ∘ fun k : Nat => (k : Int)) = (fun k => l.contains k) from by funext k; simp] at hcf
            rw [decide_eq_true hneg, Bool.true_and] at hfn
            rw [← hfn] at hcf
            have HCF := Lib.hid hcf
            clear hcf hfn hu hcell hfl hfj
            cases hq : farNext n nd out l j with
            | true =>
              rw [hq] at HCF hfs
              rw [if_pos rfl] at hfs
              have HFS := Lib.hid hfs
              clear hfs hq hlt
              go_wp2_with fail
              refine (HCF.out).mono ?_
              rintro e w3 ⟨rfl, ho⟩
              have HA3 := Lib.hid (HA.out.grow ho)
              have HR3 := Lib.hid (HR.out.ext ho)
              clear ho
              generalize (List.range j).filter (farNext n nd out l) = nx at *
              go_wp2_with (at_builtin; refine wpNum rfl (.tmp 41) (.tmp 43) w bq _ nx j w3 rfl rfl rfl rfl HR3.out (Nat.le_trans HFL.out (by omega)) HA3.out.lo.2.2.2.2.1 HA3.out.ext HBQ.out ?_; intro g5 cap5 w5 HR5 _ HG5; have HA5 := Lib.hid (HA3.out.later (Only.of_grown HG5.out) (fun b hb => HR3.out.base b hb)))
              go_roundw
              case rel => exact ⟨j + 1, by omega, by go_num, by rw [HFS.out]; exact HR5, HA5⟩
              case measure => simp [intOf]; omega
            | false =>
              rw [hq] at HCF hfs
              rw [if_neg (by decide), List.append_nil] at hfs
              rw [← hfs] at HR
              clear hfs hq hlt
              go_wp2_with fail
              refine (HCF.out).mono ?_
              rintro e w3 ⟨rfl, ho⟩
              have HA3 := Lib.hid (HA.out.grow ho)
              have HR3 := Lib.hid (HR.out.ext ho)
              clear ho
              go_wp2_with fail
              go_roundw
              case rel => exact ⟨j + 1, by omega, by go_num, HR3, HA3⟩
              case measure => simp [intOf]; omega
          · rw [decide_eq_false hneg, Bool.false_and] at hfn
            rw [hfn, if_neg (by decide), List.append_nil] at hfs
            rw [← hfs] at HR
            clear hfs hfn hu hcell hfl hfj hlt
            go_wp2_with fail
            go_roundw
            case rel => exact ⟨j + 1, by omega, by go_num, HR, HA⟩
            case measure => simp [intOf]; omega
        · have hltz : ¬ (j : Int) < (n : Int) := by omega
          obtain rfl : j = n := by omega
          obtain ⟨nx, hnx⟩ : ∃ nx, nx = (List.range j).filter (farNext j nd out l) := ⟨_, rfl⟩
          rw [← hnx] at HR
          have HNX := Lib.hid hnx
          have HF2 := Lib.hid (HF.out.next HND.out)
          rw [← hnx] at HF2
          have HRD := Lib.hid HR.out.rd
          have hrd := HR.out.rd
          obtain ⟨a9, c9, h9, _, _, hcell⟩ := hrd
          have HCE := Lib.hid hcell
          have HRB := Lib.hid (fun b hb => HR.out.base b hb)
          have hlen : nx.length ≤ j := by rw [hnx]; have := List.length_filter_le (farNext j nd out l) (List.range j); rw [List.length_range] at this; exact this
          have HMX : Hid (∀ k ∈ nx, k < j) := Lib.hid (fun k hk => by rw [hnx] at hk; exact List.mem_range.1 (List.mem_filter.1 hk).1)
          clear hnx hcell hj hlt
          subst h9
          have hlenz : (nx.length : Int) ≤ 1000 := by omega
          go_wp2_with fail
          go_loopw [11, 48] (fun _ i wx => ∃ t : Nat, t ≤ nx.length ∧ i = .int .i64 t ∧ Hid (RowI bq wx (.slice a9 nx.length c9) nx) ∧ Hid (FarAt w wx j ob bx bq (.slice av l.length cv) (fset nx t step (fv out)) l)) (fun _ i _ => nx.length - (intOf i).toNat)
          case atStart => exact ⟨0, Nat.zero_le _, rfl, HR, HA⟩
          case round =>
            clear HR HA HRD
            obtain ⟨t, ht, rfl, HR, HA⟩ := hrel
            by_cases hlt : t < nx.length
            · have hltz : (t : Int) < (nx.length : Int) := by omega
              have ht0 : (0 : Int) ≤ (t : Int) := by omega
              obtain ⟨k, hk⟩ : ∃ k, nx[t]? = some k := ⟨_, List.getElem?_eq_getElem hlt⟩
              have hkj := HMX.out k (List.mem_of_getElem? hk)
              have hkz : (k : Int) < (j : Int) := by omega
              have hk0 : (0 : Int) ≤ (k : Int) := by omega
              obtain ⟨a8, c8, h8, _, _, hcell⟩ := HR.out.rd
              obtain ⟨b, off, h7, hc7⟩ := hcell (by intro e; rw [e] at hlt; simp at hlt)
              have d0 := hc7 t k hk
              cases h8
              subst h7
              have d1 := HA.out.tab.cell hkj
              have d2 := HA.out.tab.free k
              have HA2 := Lib.hid ((HA.out.set k step).congr (fun i _ => fset_step hk i))
              have HR2 : Hid (RowI bq (wr.setCell ⟨ob, k, none⟩ (I step)) (.slice (some ⟨b, off, none⟩) nx.length c9) nx) := Lib.hid ((Only.set (p := fun b => b = ob) (I step) rfl).row HR.out (fun b hb e => by have := HR.out.base b hb; have := HA.out.lo; omega))
              clear hc7 hcell hk hkj hlt HCE
              go_wp2_with fail
              go_roundw
              case rel => exact ⟨t + 1, by omega, by go_num, HR2, HA2⟩
              case measure => simp [intOf]; omega
            · have hltz : ¬ (t : Int) < (nx.length : Int) := by omega
              obtain rfl : t = nx.length := by omega
              have b1 := HA.out.boxc
              have b2 := free_of_heap HA.out.box 0
              have HA2 := Lib.hid ((HA.out.next HR.out _ rfl).congr (g := fv (farSet j nd out l step)) (fun i hi => by
                rw [farSet_fv hi]
                unfold fset
                rw [List.take_length, HNX.out]
                congr 1
                simp [hi]))
              clear hlt ht HCE
              go_wp2_with fail
              go_roundw
              case rel => exact ⟨step + 1, _, _, _, _, _, by omega, by go_num, rfl, HF2, HA2⟩
              case measure => simp [intOf]; omega
    · have hltz : ¬ (0 : Int) < (l.length : Int) := by omega
      obtain rfl : l = [] := List.length_eq_zero_iff.1 (by omega)
      have HOK := Lib.hid (FarOk.of HF.out HND.out hsn)
      have HL := Lib.hid HA.out.lo.1
      clear hlt
      go_wp2_with fail
      go_ret
      exact ⟨ob, _, rfl, HA.out.tab, HOK.out, HL.out, HA.out.ext⟩
end Go.Proofs.YtnmhaipjfpongabGreatDoor
