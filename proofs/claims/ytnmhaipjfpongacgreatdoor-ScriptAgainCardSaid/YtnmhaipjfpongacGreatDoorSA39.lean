/- Texts of this seat laid together for one claim: Yb3, Yb4. No condition of its own: what each proves stands with its theorems. -/
import Derived.Deep.CutBlock
import Derived.Deep.DeepCutAuto
import Derived.Test.YtnmhaipjfpongacGreatDoorSA38
import Derived.Test.YtnmhaipjfpongacGreatDoorSA18
import Derived.Test.YtnmhaipjfpongacGreatDoorSA27
import Derived.Test.YtnmhaipjfpongacGreatDoorSA23
import Derived.Test.YtnmhaipjfpongacGreatDoorSA6
import Derived.Test.YtnmhaipjfpongacGreatDoorSA24
import Derived.Test.YtnmhaipjfpongacGreatDoorSA29
namespace Go.Proofs.YtnmhaipjfpongacGreatDoor
open Go.ChangeShapes Go.WideShapes Go.ChangeAt Go.RowKit

section
variable {w0 w w' : World} {D : Nat → Prop} {n : Nat} {sv lv : Value} {many : Nat} {T O L : FL} {l l0 : List Rule}
structure RulesGo (w wr : World) (n : Nat) (v2 : Value) (l : List Rule) (k : Nat) (ps : List (Rule × Option Addr × Nat × Nat)) : Prop where
 only : Only (fun i => i = n + 6) w wr
 cells : wr.heap[n + 6]? = some (.cells #[PTR (n + 3), PTR (n + 5), v2, PTR (n + 1)] 175 (0, 0))
 fst : ps.map Prod.fst = l
 row : wr.ownsRow w.heap.size 55 4 v2 l.length (ps.flatMap encR)
 new : ∀ j p, ps[j]? = some p → j < k → Row w.heap.size wr (SV p.2) p.1.ins
 old : ∀ j p, ps[j]? = some p → k ≤ j → Rd S w (SV p.2) p.1.ins
theorem flat_setY {α : Type} {enc : α → List Value} {n : Nat} (hn : ∀ x, (enc x).length = n) {j : Nat} {u : Value} {x' : α} (hj : j < n) : ∀ {l : List α} {k : Nat} {x : α}, l[k]? = some x → enc x' = (enc x).set j u → (l.flatMap enc).set (k * n + j) u = (l.set k x').flatMap enc
 | [], k, x, h, _ => by simp at h
 | y :: l, 0, x, h, e => by
  simp only [List.getElem?_cons_zero, Option.some.injEq] at h
  subst h
  rw [List.set_cons_zero, List.flatMap_cons, List.flatMap_cons, e, Nat.zero_mul, Nat.zero_add, List.set_append_left _ _ (by rw [hn]; exact hj)]
 | y :: l, k + 1, x, h, e => by
  have ih := flat_setY hn hj (l := l) (k := k) (x := x) (x' := x') (by simpa using h) e
  rw [List.set_cons_succ, List.flatMap_cons, List.flatMap_cons, ← ih, List.set_append_right _ _ (by rw [hn, Nat.succ_mul]; omega), hn]
  congr 2
  rw [Nat.succ_mul]; omega
theorem Row.apart {b1 b2 : Nat} {w : World} {v v2 : Value} {L : List B} {m : Nat} {xs : List Value} (h : Row b1 w v L) (k : w.ownsRow b2 55 4 v2 m xs) {i : Nat} (e1 : v.ownBlock = some i) (e2 : v2.ownBlock = some i) : False := by
 rcases h.2 with ⟨rfl, _⟩ | ⟨g, cap, cur, rfl, _, hh, _⟩
 ·cases e1
 ·rcases k.2 with ⟨rfl, _⟩ | ⟨g2, cap2, cur2, rfl, _, hh2, _⟩
  ·cases e2
  ·cases e1; cases e2
   rw [hh] at hh2
   simp only [Option.some.injEq, Obj.cells.injEq] at hh2
   exact absurd hh2.2.1 (by decide)
theorem RulesGo.step {wr w5 : World} {n g m c2 k : Nat} {l : List Rule} {ps : List (Rule × Option Addr × Nat × Nat)} {r : Rule} {u u' : Option Addr × Nat × Nat} (h : RulesGo w wr n (.slice (some ⟨g, 0, none⟩) m c2) l k ps) (hn : n + 6 < w.heap.size) (hp : ps[k]? = some (r, u)) (ho : Ext wr w5) (hr : Row wr.heap.size w5 (SV u') r.ins) :
  RulesGo w (w5.setCell ⟨g, k * 4 + 3, none⟩ (SV u')) n (.slice (some ⟨g, 0, none⟩) m c2) l (k + 1) (ps.set k (r, u')) := by
 have hg := h.row.lt g rfl
 have hs := ho.size
 have hrow5 := ho.row h.row (fun _ _ h => h)
 have hset : Only (fun i => i = g) w5 (w5.setCell ⟨g, k * 4 + 3, none⟩ (SV u')) := Only.set (p := fun i => i = g) (SV u') rfl
 have hl : l[k]? = some r := by rw [← h.fst, List.getElem?_map, hp]; rfl
 have hm : m = l.length := by
  rcases h.row.2 with ⟨h1, _⟩ | ⟨_, _, _, h1, _⟩
  ·cases h1
  ·cases h1; rfl
 subst hm
 refine ⟨(h.only.trans ho (fun _ _ h => h) (fun _ _ h => h.elim)).trans hset (fun _ _ h => h) (fun i hi e => by omega), hset.heapOf (ho.heapOf h.cells (fun h => h)) (by omega), ?_, ?_, fun j p hj hlt => ?_, fun j p hj hle => ?_⟩
 ·rw [List.map_set, h.fst]
  exact List.ext_getElem? fun i => by
   by_cases e : i = k
   ·subst e; rw [hl]; simp [(List.getElem?_eq_some_iff.1 hl).1]
   ·rw [List.getElem?_set_ne (Ne.symm e)]
 ·have := (hrow5.stored (k * 4 + 3) (SV u')).1
  rwa [flat_setY (enc := encR) encR_len (x' := (r, u')) (by decide) hp rfl] at this
 ·by_cases e : j = k
  ·subst e
   have hjl := (List.getElem?_eq_some_iff.1 hp).1
   rw [List.getElem?_set_self hjl] at hj
   cases hj
   exact hset.row (World.ownsRow.mono hr (by omega)) (fun i e1 e2 => by have := (hr.lt i e1).1; omega)
  ·rw [List.getElem?_set_ne (Ne.symm e)] at hj
   have h1 := ho.row (h.new j p hj (by omega)) (fun _ _ h => h)
   exact hset.row h1 (fun i e1 e2 => Row.apart h1 hrow5 e1 (by rw [e2]; rfl))
 ·rw [List.getElem?_set_ne (by omega)] at hj
  exact h.old j p hj (by omega)
theorem Rd.off {b : Nat} {cs : Array Value} {t : TypeId} {v : Value} {L : List B} (h : Rd S w v L) (hc : w.heap[b]? = some (.cells cs t (0, 0))) (hs : ∀ (j : Nat) x, cs[j]? ≠ some (S x)) (ho : Only (fun i => i = b) w w') : Rd S w' v L := by
 obtain ⟨a, cap, rfl, h1, h2, h3⟩ := h
 refine ⟨a, cap, rfl, h1, h2, fun hne => ?_⟩
 obtain ⟨b', off, rfl, h4⟩ := h3 hne
 refine ⟨b', off, rfl, fun i x hx => ho.cellOf (h4 i x hx) (fun e => ?_)⟩
 have e : b' = b := e
 subst e
 have := cell_of_heap hc (off + i)
 rw [h4 i x hx] at this
 exact hs _ _ this.symm
theorem yard_noS (n : Nat) (lv : Value) {a : Option Addr} {m c : Nat} (hl : lv = .slice a m c) : ∀ (j : Nat) x, (#[PTR (n + 3), PTR (n + 5), lv, PTR (n + 1)] : Array Value)[j]? ≠ some (S x) := by
 subst hl
 intro j x h
 rcases (show j = 0 ∨ j = 1 ∨ j = 2 ∨ j = 3 ∨ 4 ≤ j by omega) with rfl | rfl | rfl | rfl | h4
 ·cases h
 ·cases h
 ·cases h
 ·cases h
 ·rw [Array.getElem?_eq_none (by simpa using h4)] at h; cases h
def rulesY (l0 l : List Rule) : List Rule := if (orderFault l).1 = 0 then l else l0
def RetRu (P : Nat → Addr) (w0 w : World) (D : Nat → Prop) (n : Nat) (sv : Value) (many : Nat) (T O L : FL) (l0 l : List Rule) (e : Ending) (w' : World) : Prop :=
 ∃ ev v2 D2, e = .returned ev ∧ ErrAt w' P (orderFault l) ev ∧ YardAt w0 w' D2 n sv v2 many T O L (rulesY l0 l) ∧ Moved D w w' D2
set_option maxRecDepth 100000 in
set_option maxHeartbeats 8000000 in
theorem yardRules_any (P : Nat → Addr) (v : Value) (h : YardAt w0 w D n sv lv many T O L l0) (hv : RdR w v l) (hs : ∀ r ∈ l, RuleSm 900000 r) (hV : PV w P [1, 2, 3, 4, 5, 6, 7, 8, 9, 10, 11]) : Calls Tryz.prog 35 #[PTR (n + 6), v] w (RetRu P w0 w D n sv many T O L l0 l) := by
 have HH := Lib.hid h
 have HRD := Lib.hid hv
 have hS := hs
 have HO := Lib.hid (graphOrder_any w P l v hv hs (hV.sub (by decide)))
 obtain ⟨a, cap, rfl, _, _, _⟩ := hv
 clear h hV
 clear hs
 by_cases hf : (orderFault l).1 = 0
 case neg =>
  go_enter Tryz.func35, Tryz.ntmps35
  go_wp2_with fail
  refine HO.out.mono ?_
  rintro e w1 ⟨vo, ev, rfl, hro, hev, ho1⟩
  have HX1 := Lib.hid ho1
  have HEV := Lib.hid hev
  obtain ⟨ao, co, rfl, _, _, _⟩ := hro.rd
  obtain ⟨t1, q1, rfl⟩ := hev.some hf
  have HF := Lib.hid hf
  clear hro hev ho1 HO hf
  go_wp2_with fail
  go_ret
  exact ⟨_, _, _, rfl, HEV.out, by unfold rulesY; rw [if_neg HF.out]; exact HH.out.grow HX1.out, Moved.ext HX1.out⟩
 case pos =>
  have hrs : RightS l := sheet_ok.1 (by
   unfold orderFault at hf
   by_cases h0 : (sheetFault l).1 = 0
   ·exact h0
   ·rw [if_pos h0] at hf; exact hf)
  have h40 := hrs.1
  have HF := Lib.hid hf
  clear hrs
  go_enter Tryz.func35, Tryz.ntmps35
  go_wp2_with fail
  refine HO.out.mono ?_
  rintro e w1 ⟨vo, ev, rfl, hro, hev, ho1⟩
  have HX1 := Lib.hid ho1
  have HEV := Lib.hid hev
  obtain ⟨ao, co, rfl, _, _, _⟩ := hro.rd
  obtain rfl := hev.zero hf
  clear hro hev ho1 HO hf
  go_wp2_with fail
  refine (cloneRules_any w1 _ l (HRD.out.ext HX1.out) (by omega)).mono ?_
  rintro e w2 ⟨v2, ps, rfl, hps, hr2, ht2, ho2⟩
  have hc2 := (HX1.out.then ho2).heapOf HH.out.cells (fun h => h)
  have hgo : RulesGo w1 (w2.setCell ⟨n + 6, 2, none⟩ v2) n v2 l 0 ps := ⟨ho2.trans (Only.set (p := fun i => i = n + 6) v2 rfl) (fun _ _ h => h.elim) (fun i hi e => e), (heap_setCell_same hc2 2 v2).trans (by simp), hps, (Only.set (p := fun i => i = n + 6) (w := w2) (a := ⟨n + 6, 2, none⟩) v2 rfl).row hr2 (fun i e e1 => by
   have := (hr2.lt i e).1
   have h1 := lt_of_heap HH.out.cells
   have := HX1.out.size
   omega), fun j p _ h => absurd h (Nat.not_lt_zero _), fun j p hp _ => ht2 p (List.mem_of_getElem? hp)⟩
  have HGO := Lib.hid hgo
  have d2 := (cell_of_heap hc2 2).trans (rfl : _ = some lv)
  have e2 := (cell_of_heap hgo.cells 2).trans (rfl : _ = some v2)
  have hz := hgo.only.size
  have hfr : w2.frozen? ⟨n + 6, 2, none⟩ = false := frozen_of_row w2 (n + 6) 2 _ _ hc2
  obtain ⟨a2, c2, rfl, _⟩ : ∃ a2 c2, v2 = .slice a2 l.length c2 ∧ True := by
   rcases hr2.2 with ⟨h1, h2⟩ | ⟨g, cap', cur, h1, _⟩
   ·exact ⟨none, 0, by rw [h1, h2], trivial⟩
   ·exact ⟨_, _, h1, trivial⟩
  clear hps hr2 ht2 ho2 hgo
  go_wp2_with fail
  go_loopw [7, 26] (fun _ i wr => ∃ (k : Nat) (ps : List (Rule × Option Addr × Nat × Nat)), k ≤ l.length ∧ i = .int .i64 k ∧ Hid (RulesGo w1 wr n (.slice a2 l.length c2) l k ps)) (fun _ i _ => l.length - (intOf i).toNat)
  case atStart => exact ⟨0, ps, Nat.zero_le _, rfl, HGO⟩
  case round =>
   clear HGO e2 d2 hc2 hz hfr
   obtain ⟨k, ps, hk, rfl, HGO⟩ := hrel
   by_cases hlt : k < l.length
   ·have hltz : (k : Int) < (l.length : Int) := by omega
    have hk0 : (0 : Int) ≤ (k : Int) := by omega
    have hpl : ps.length = l.length := by rw [← HGO.out.fst, List.length_map]
    obtain ⟨g, rfl⟩ : ∃ g, a2 = some ⟨g, 0, none⟩ := by
     rcases HGO.out.row.2 with ⟨_, h2⟩ | ⟨g, cap', cur, h1, _⟩
     ·omega
     ·cases h1; exact ⟨g, rfl⟩
    obtain ⟨p, hp⟩ : ∃ p, ps[k]? = some p := ⟨_, List.getElem?_eq_getElem (by omega)⟩
    obtain ⟨r, au, nu, cu⟩ := p
    have hold := HGO.out.old k _ hp (Nat.le_refl _)
    have c3 : wr.cell? ⟨g, k * 4 + 3, none⟩ = some (.slice au nu cu) := (HGO.out.row.cellAt (k * 4 + 3) (by omega)).trans (flat_at encR_len ps k _ hp 3 _ rfl)
    have e2 := (cell_of_heap HGO.out.cells 2).trans (rfl : _ = some (Value.slice (some ⟨g, 0, none⟩) l.length c2))
    go_wp2_with fail
    have HC2 : Hid (∀ wq, Ext wr wq → wq.cell? ⟨n + 6, 2, none⟩ = some (Value.slice (some ⟨g, 0, none⟩) l.length c2)) := Lib.hid (fun wq hx => hx.cellOf e2 (fun h => h))
    have c3d := (Only.drew (fun _ => False) wr).cellOf c3 (fun h => h)
    have HP := Lib.hid hp
    have HK := Lib.hid hlt
    obtain ⟨_, _, hu, _⟩ := id hold
    have hnu : nu = r.ins.length := by cases hu; rfl
    subst hnu
    obtain ⟨al, cl, hlv, _⟩ := HH.out.rules.rd
    have HOR := Lib.hid (hold.off ((HX1.out).heapOf HH.out.cells (fun h => h)) (yard_noS n lv hlv) HGO.out.only)
    clear hlv
    have hil : r.ins.length ≤ 1000000 := by have := (hS r (by
     have : (ps.map Prod.fst)[k]? = some r := by rw [List.getElem?_map, hp]; rfl
     rw [HGO.out.fst] at this
     exact List.mem_of_getElem? this)).many; omega
    have HIL := Lib.hid hil
    clear c3 e2 hp hold hu hil hpl hk
    refine wp_region_held_drew (S := fun w' => w'.cell? ⟨n + 6, 2, none⟩ = some (Value.slice (some ⟨g, 0, none⟩) l.length c2)) (by kernel_rfl) (HC2.out _ (Only.drew _ _)) (fun hHeld => ?_)
    refine takeN 0 ?_
    refine takeN 1 ?_
    refine takeN 2 ?_
    refine takeN 3 ?_
    refine takeN 4 ?_
    refine takeN 5 ?_
    refine takeN 6 ?_
    refine takeN 7 ?_
    refine takeN 8 ?_
    refine takeN 9 ?_
    refine takeN 10 ?_
    refine takeN 11 ?_
    refine wpAnyH_ready (rs := [12]) (by kernel_rfl) (by simp) ?_
    refine AllReadyH.cons (o := { dst := some 41, op := Op.load 53 (Operand.tmp 40), type := 53, pos := "yard.go:53", after := #[{ on := 11, ground := Ground.data }], guard := none }) rfl (fun K hK => ?_) AllReadyH.nil
    go_simp
    refine hK.out _ _ (HC2.out _ (Only.drew _ _)) (fun hHeld => ?_)
    clear hK K
    try simp only [Act.put, List.setIfInBounds_toArray, List.set_cons_zero, List.set_cons_succ]
    refine wpAnyH_ready (rs := [13]) (by kernel_rfl) (by simp) ?_
    refine AllReadyH.cons (o := { dst := some 42, op := Op.call { callee := Callee.value (Operand.func 111), args := #[Operand.tmp 41], argTypes := #[53] }, type := 53, pos := "yard.go:53", after := #[{ on := 12, ground := Ground.data }], guard := none }) rfl (fun K hK => ?_) AllReadyH.nil
    go_simp
    go_at_call 111
    refine (cloneRow_any _ _ r.ins (HOR.out.ext (Only.drew _ _)) HIL.out).mono ?_
    rintro e w5 ⟨v5, rfl, ho5, hr5⟩
    have HX5 := Lib.hid ((Only.drew (fun _ => False) wr).then ho5)
    refine hK.out _ _ (HC2.out _ HX5.out) (fun hHeld => ?_)
    clear hK K
    try simp only [Act.put, List.setIfInBounds_toArray, List.set_cons_zero, List.set_cons_succ]
    obtain ⟨a5, c5, rfl, _, _, _⟩ := hr5.rd
    have hn6 : n + 6 < w1.heap.size := Nat.lt_of_lt_of_le (lt_of_heap HH.out.cells) HX1.out.size
    have hst := HGO.out.step (u' := (a5, r.ins.length, c5)) hn6 HP.out HX5.out hr5
    have hfz : w5.frozen? ⟨g, k * 4 + 3, none⟩ = false := (HX5.out.row HGO.out.row (fun _ _ h => h)).frozenAt (k * 4 + 3)
    have HST := Lib.hid hst
    have c35 := ho5.cellOf c3d (fun h => h)
    clear hr5 ho5 hst hn6
    refine takeN 14 ?_
    refine takeN 15 ?_
    refine wpAnyH_ready (rs := [16]) (by kernel_rfl) (by simp) ?_
    refine AllReadyH.cons (o := { dst := none, op := Op.store 53 (Operand.tmp 44) (Operand.tmp 42), type := 0, pos := "yard.go:53", after := #[{ on := 15, ground := Ground.data }, { on := 13, ground := Ground.data }, { on := 13, ground := Ground.chain }, { on := 0, ground := Ground.phase }, { on := 1, ground := Ground.phase }, { on := 2, ground := Ground.phase }, { on := 3, ground := Ground.phase }, { on := 4, ground := Ground.phase }, { on := 5, ground := Ground.phase }, { on := 6, ground := Ground.phase }, { on := 7, ground := Ground.phase }, { on := 8, ground := Ground.phase }, { on := 9, ground := Ground.phase }, { on := 10, ground := Ground.phase }, { on := 11, ground := Ground.phase }, { on := 12, ground := Ground.phase }, { on := 13, ground := Ground.phase }], guard := none }) rfl (fun K hK => ?_) AllReadyH.nil
    go_simp
    refine hK.out _ _ ((cell_of_heap HST.out.cells 2).trans rfl) (fun hHeld => ?_)
    clear hK K
    try simp only [Act.put, List.setIfInBounds_toArray, List.set_cons_zero, List.set_cons_succ]
    refine wpAnyH_done (by kernel_rfl) ?_ _
    go_wp2_with fail
    go_roundw
    case rel => exact ⟨k + 1, _, HK.out, by go_num, HST⟩
    case measure => have := HK.out; simp [intOf]; omega
   ·have hltz : ¬ (k : Int) < (l.length : Int) := by omega
    go_wp2_with fail
    go_ret
    have hg := HGO.out
    have hs1 := HX1.out.size
    have hn6 := lt_of_heap HH.out.cells
    have hcl := HH.out.cache.lt
    have hlo := HH.out.low
    have hpl : ps.length = l.length := by rw [← hg.fst, List.length_map]
    have hsz := hg.only.size
    have hB : ∀ i, w1.heap.size ≤ i → i < wr.heap.size → (D i ∨ (w.heap.size ≤ i ∧ i < wr.heap.size)) ∧ n + 7 ≤ i ∧ sv.ownBlock ≠ some i := fun i hi h2 => ⟨.inr ⟨by omega, h2⟩, by omega, fun e => by have := hcl i (.inr (.inr e)); omega⟩
    have hmv : Moved D w wr (fun i => D i ∨ (w.heap.size ≤ i ∧ i < wr.heap.size)) := ⟨HX1.out.trans hg.only (fun _ _ h => h.elim) (fun i _ e => by have e : i = n + 6 := e; exact HH.out.own i (by omega) (by omega)), fun i e => e.imp id (·.1)⟩
    refine ⟨_, .slice a2 l.length c2, _, rfl, .inl ⟨HF.out, rfl⟩, ?_, hmv⟩
    unfold rulesY
    rw [if_pos HF.out]
    refine ⟨(HH.out.ext.then HX1.out).trans hg.only (fun _ _ h => h) (fun i hi e => by omega), hlo, hg.cells, (HH.out.tree.later HX1.out (fun h => h) (fun h => h)).later hg.only (by omega) (by omega), (HH.out.out.later HX1.out (fun h => h) (fun h => h)).later hg.only (by omega) (by omega), (HH.out.cache.later HX1.out (fun _ _ h => h)).later hg.only (fun i hi e => ?_), HH.out.ok, HH.out.len, HH.out.many, fun i h1 h2 => .inl (HH.out.own i h1 h2), fun i e => e.elim (HH.out.ge i) (fun e => by omega), fun i e => e.elim (fun e => by have := HH.out.lt i e; omega) (·.2), fun i e => ⟨.inl (HH.out.sva i e).1, (HH.out.sva i e).2⟩, ps, hg.fst, hg.row.mono (Nat.zero_le _), fun i e => hB i (hg.row.lt i e).1 (hg.row.lt i e).2, fun p hp => ?_⟩
    ·have e : i = n + 6 := e
     rcases hi with h | h | h
     ·omega
     ·omega
     ·have := (HH.out.sva i h).2; omega
    ·obtain ⟨j, hj⟩ := List.getElem?_of_mem hp
     have hjl := (List.getElem?_eq_some_iff.1 hj).1
     have hr := hg.new j p hj (by omega)
     exact ⟨World.ownsRow.mono hr (Nat.zero_le _), fun i e => hB i (hr.lt i e).1 (hr.lt i e).2⟩
end
end Go.Proofs.YtnmhaipjfpongacGreatDoor

namespace Go.Proofs.YtnmhaipjfpongacGreatDoor
open Go.ChangeShapes Go.WideShapes Go.ChangeAt Go.RowKit

theorem path_short {p : B} (h : pathOk p = true) : p.length ≤ 65 := by
 unfold pathOk partsOk at h
 rw [Bool.and_eq_true, decide_eq_true_eq, List.all_eq_true] at h
 have h1 := joinS_len (cut p) 12 (fun x hx => by
  have := h.2 x hx
  unfold nameOk at this
  simp only [Bool.and_eq_true, decide_eq_true_eq] at this
  exact this.1.1.1.2)
 rw [join_cut] at h1
 have := h.1
 omega
theorem kinds_short : ∀ p ∈ kinds, p.1.length ≤ 60 := by decide
theorem right_shortR {r : Rule} (h : ruleCode r = 0) : ShortR r := by
 have hp := rule_path h
 unfold ruleCode at h
 rw [hp, if_neg (by decide)] at h
 by_cases ha : actCode r.kind r.word r.ins.length = 0
 case neg => rw [if_pos ha] at h; exact absurd h ha
 rw [if_neg (by simpa using ha)] at h
 by_cases hi : r.ins.all pathOk = false
 case pos => rw [if_pos hi] at h; cases h
 have hi : r.ins.all pathOk = true := by simpa using hi
 have hword := rule_word (r := r) (by unfold ruleCode; rw [hp, if_neg (by decide), if_neg (by simpa using ha), if_neg (by rw [hi]; decide)]; rwa [if_neg (by rw [hi]; decide)] at h)
 obtain ⟨k, hk, _, _, _⟩ := actCode_ok ha
 have hm : r.ins.length ≤ k.most := by
  unfold actCode at ha
  rw [hk] at ha
  by_cases hc : r.ins.length < k.least ∨ k.most < r.ins.length ∨ k.word r.word = false
  ·simp only at ha; rw [if_pos hc] at ha; cases ha
  ·omega
 have h8 : k.most ≤ 8 := by cases k <;> decide
 refine ⟨by have := path_short hp; omega, kinds_short _ (mem_of_lookup hk), by omega, by omega, fun s hs => ?_⟩
 have := path_short (List.all_eq_true.1 hi s hs)
 omega
theorem right_short {l : List Rule} (h : RightS l) : ∀ r ∈ l, ShortR r := fun r hr => right_shortR (h.2.1 r hr)

def outsY (l : List Rule) (outs : List B) : List B := if outs = [] then l.map Rule.out else outs
theorem AllTo.cached {E : BE} {many : Nat} {x y : BS × CS} (h : AllTo E (·.1) (stepM E) x y) : (∃ L, x.2 = some (many, L)) → ∃ L, y.2 = some (many, L) := by
 induction h with
 | stop _ => exact id
 | @more x y i R _ _ ih =>
  rintro ⟨L, hL⟩
  obtain ⟨s, C⟩ := x
  have hL : C = some (many, L) := hL
  subst hL
  exact ih ⟨cacheZ E many L s i, runZ_cs E many L s i⟩
theorem state_M {E : BE} {s : BS} (i : Nat) : stateZ E s (i : Int) = if mst E s i = 0 then [] else stateB (mst E s i) := by
 by_cases h : i ∈ E.sm
 ·rw [stateZ_in h, mst_in h]
  split
  ·rename_i h0; rw [h0]; rfl
  ·rfl
 ·rw [stateZ_out (fun k hk e => h (by have e2 : k = i := (by omega); exact e2 ▸ hk)), mst_out h]
  rfl
section
variable {w0 w wr w' : World} {D D2 : Nat → Prop} {n : Nat} {sv sv' lv : Value} {many : Nat} {T O U L : FL} {l : List Rule}
theorem YardAt.outs (h : YardAt w0 w D n sv lv many T O L l) (ht : TreeAt w' (n + 5) (n + 4) U) (ho : Only (fun i => i = n + 4) w w') : YardAt w0 w' D n sv lv many T U L l := by
 have hl := h.low
 exact ⟨h.ext.trans ho (fun _ _ h => h) (fun i hi e => by omega), hl, ho.heapOf h.cells (by omega), h.tree.later ho (by omega) (by omega), ht, h.cache.later ho (fun i hi e => by
  rcases hi with hi | hi | hi
  ·omega
  ·omega
  ·have := (h.sva i hi).2; omega), h.ok, h.len, h.many, h.own, h.ge, fun i hi => Nat.lt_of_lt_of_le (h.lt i hi) ho.size, h.sva, h.rules.later ho (fun i e hi => by omega)⟩
theorem YardAt.files (h : YardAt w0 w D n sv lv many T O L l) (ht : TreeAt w' (n + 3) (n + 2) U) (ho : Only (fun i => i = n + 2) w w') : YardAt w0 w' D n sv lv many U O L l := by
 have hl := h.low
 exact ⟨h.ext.trans ho (fun _ _ h => h) (fun i hi e => by omega), hl, ho.heapOf h.cells (by omega), ht, h.out.later ho (by omega) (by omega), h.cache.later ho (fun i hi e => by
  rcases hi with hi | hi | hi
  ·omega
  ·omega
  ·have := (h.sva i hi).2; omega), h.ok, h.len, h.many, h.own, h.ge, fun i hi => Nat.lt_of_lt_of_le (h.lt i hi) ho.size, h.sva, h.rules.later ho (fun i e hi => by omega)⟩
theorem Moved.only {q : Nat → Prop} (h : Moved D w wr D2) (ho : Only q wr w') (hq : ∀ i, q i → D2 i) : Moved D w w' D2 :=
 ⟨h.1.trans ho (fun _ _ h => h) (fun i hi e => (h.2 i (hq i e)).elim id (fun e => by omega)), h.2⟩
variable {P : Nat → Addr} {base : Nat} {E : BE} {K : BK} {s : BS} {y : BS × CS}
structure MkAt (w0 w : World) (P : Nat → Addr) (base : Nat) (E : BE) (K : BK) (D D2 : Nat → Prop) (n : Nat) (sv lv : Value) (many : Nat) (T U L : FL) (l : List Rule) (s : BS) (wr : World) : Prop where
 yard : YardAt w0 wr D2 n sv lv many T U L l
 bld : BldAt wr P base E K s
 apart : ∀ i, InBld E K i → ¬ D2 i
 moved : Moved D w wr D2
 ft : FTree U
theorem MkAt.grow (h : MkAt w0 w P base E K D D2 n sv lv many T U L l s wr) (ho : Ext wr w') : MkAt w0 w P base E K D D2 n sv lv many T U L l s w' :=
 ⟨h.yard.grow ho, h.bld.ext ho, h.apart, ⟨h.moved.1.ext ho, h.moved.2⟩, h.ft⟩
theorem MkAt.lays {V : FL} (h : MkAt w0 w P base E K D D2 n sv lv many T U L l s wr) (ht : TreeAt w' (n + 5) (n + 4) V) (ho : Only (fun i => i = n + 4) wr w') (hf : FTree V) : MkAt w0 w P base E K D D2 n sv lv many T V L l s w' :=
 have d4 : D2 (n + 4) := h.yard.own _ (by omega) (by omega)
 ⟨h.yard.outs ht ho, h.bld.later ho (fun i hi e => h.apart i hi (by rw [e]; exact d4)), h.apart, h.moved.only ho (fun i e => by rw [e]; exact d4), hf⟩
theorem YardAt.real {w1 w3 : World} (h : YardAt w0 w D n sv lv many T O L l) (h1 : Ext w w1) (hb : Ext w1 w3) (hB : BldAt w3 P w1.heap.size E K .new) (hc : K.cp = PTR (n + 1)) : RealAt w0 P w1.heap.size E K (n + 1) n sv w3 (.new, some (many, L)) := by
 have hg := h.grow (h1.then hb)
 have hs1 := h1.size
 refine ⟨hB, BInv.new E, hg.ext, ⟨hc, hg.cache, hg.ok, hg.len, hg.many⟩, fun i hi => ?_, fun _ i hi hi2 => ?_⟩
 ·have hl := h.low
  rcases hi with hi | ⟨_, hi⟩
  ·have := hB.ge i hi
   have := h.ext.size
   omega
  ·rcases hi with hi | hi | hi
   ·omega
   ·omega
   ·have := (h.sva i hi).2; omega
 ·have := hB.ge i hi2
  have := h.cache.lt i hi
  omega
theorem MkAt.start {w1 w3 : World} (h : YardAt w0 w D n sv lv many T O L l) (h1 : Ext w w1) (h3 : Ext w1 w3) (hB : BldAt w3 P w1.heap.size E K .new) (hr : RealAt w0 P w1.heap.size E K (n + 1) n sv' w' y) (ho : Only (InRC E K (n + 1) n sv (some (many, L))) w3 w') (hn : ∀ i, InRC E K (n + 1) n sv' (some (many, L)) i → InRC E K (n + 1) n sv (some (many, L)) i ∨ w3.heap.size ≤ i) (hy : ∃ L', y.2 = some (many, L')) (hf : FTree O) :
  ∃ D2 L', y.2 = some (many, L') ∧ MkAt w0 w P w1.heap.size E K D D2 n sv' lv many T O L' l y.1 w' ∧ ∀ i, D2 i → D i ∨ sv'.ownBlock = some i := by
 obtain ⟨L', hL⟩ := hy
 obtain ⟨s, C⟩ := y
 subst hL
 have hg := h.grow (h1.then h3)
 have s1 := h1.size
 have s3 := h3.size
 have s4 := ho.size
 have hlow := h.low
 have hnn : (some (many, L) : CS) ≠ none := by simp
 have hnb : ∀ i, i < w.heap.size → ¬ InBld E K i := fun i hi e => by have := hB.ge i e; omega
 have hD : ∀ i, D i → n + 2 ≤ i → sv.ownBlock ≠ some i → ¬ InRC E K (n + 1) n sv (some (many, L)) i := fun i hi h2 hs e => by
  rcases e with e | ⟨_, e | e | e⟩
  ·exact hnb i (h.lt i hi) e
  ·omega
  ·omega
  ·exact hs e
 have hsv : ∀ i, sv'.ownBlock = some i → (sv.ownBlock = some i ∨ w3.heap.size ≤ i) ∧ n + 7 ≤ i := fun i e => by
  have hrow : Row 0 w' sv' (L'.map (·.1)) := by
   have := hr.cch.2.1.row
   unfold Row
   rwa [List.length_map]
  have hlt6 := h.lt _ (h.own (n + 6) (by omega) (by omega))
  rcases hn i (.inr ⟨hnn, .inr (.inr e)⟩) with k | k
  ·rcases k with k | ⟨_, k | k | k⟩
   ·exact absurd k (hr.apart (by simp) i (.inr (.inr e)))
   ·subst k
    exact absurd hr.cch.2.1.cells (fun hc => by
     rcases hrow.2 with ⟨e1, _⟩ | ⟨g, cap, cur, e1, _, hh, _⟩
     ·rw [e1] at e; cases e
     ·rw [e1] at e; cases e
      rw [hc] at hh
      simp only [Option.some.injEq, Obj.cells.injEq] at hh
      exact absurd hh.2.1 (by decide))
   ·subst k
    exact (row_ne_map hrow hr.cch.2.1.map i e rfl).elim
   ·exact ⟨.inl k, (h.sva i k).2⟩
  ·exact ⟨.inr k, by omega⟩
 have hsn : ∀ i, sv.ownBlock = some i → D i ∧ n + 7 ≤ i := h.sva
 have no : ∀ i, D i → n + 2 ≤ i → i < n + 7 → ¬ InRC E K (n + 1) n sv (some (many, L)) i := fun i hi h2 h7 => hD i hi h2 (fun e => by have := (hsn i e).2; omega)
 have d2 := no _ (h.own (n + 2) (by omega) (by omega)) (by omega) (by omega)
 have d3 := no _ (h.own (n + 3) (by omega) (by omega)) (by omega) (by omega)
 have d4 := no _ (h.own (n + 4) (by omega) (by omega)) (by omega) (by omega)
 have d5 := no _ (h.own (n + 5) (by omega) (by omega)) (by omega) (by omega)
 have d6 := no _ (h.own (n + 6) (by omega) (by omega)) (by omega) (by omega)
 refine ⟨fun i => D i ∨ sv'.ownBlock = some i, L', rfl, ⟨⟨hr.ext, hlow, ho.heapOf hg.cells d6, hg.tree.later ho d3 d2, hg.out.later ho d5 d4, hr.cch.2.1, hr.cch.2.2.1, hr.cch.2.2.2.1, hr.cch.2.2.2.2, fun i h1 h2 => .inl (h.own i h1 h2), fun i e => ?_, fun i e => ?_, fun i e => ⟨.inr e, (hsv i e).2⟩, ?_⟩, hr.bld, fun i hi e => ?_, ⟨?_, fun i e => ?_⟩, hf⟩, fun _ h => h⟩
 ·rcases e with e | e
  ·exact h.ge i e
  ·have := (hsv i e).2; omega
 ·rcases e with e | e
  ·have := h.lt i e; omega
  ·exact hr.cch.2.1.lt i (.inr (.inr e))
 ·refine (hg.rules.later ho (fun i e hi => hD i hi.1 (by omega) hi.2.2 e)).mono (fun i _ hi => ⟨.inl hi.1, hi.2.1, fun e => ?_⟩)
  rcases (hsv i e).1 with k | k
  ·exact hi.2.2 k
  ·have := h.lt i hi.1; omega
 ·rcases e with e | e
  ·exact hnb i (h.lt i e) hi
  ·exact hr.apart (by simp) i (.inr (.inr e)) hi
 ·refine (h1.then h3).trans ho (fun _ _ h => h.elim) (fun i hi e => ?_)
  rcases e with e | ⟨_, e | e | e⟩
  ·exact absurd e (hnb i hi)
  ·exact h.own i (by omega) (by omega)
  ·exact h.own i (by omega) (by omega)
  ·exact (hsn i e).1
 ·rcases e with e | e
  ·exact .inl e
  ·rcases (hsv i e).1 with k | k
   ·exact .inl (hsn i k).1
   ·exact .inr (by omega)
end
end Go.Proofs.YtnmhaipjfpongacGreatDoor
