/- Texts of this seat laid together for one claim: G8. No condition of its own: what each proves stands with its theorems. -/
import Derived.Deep.AppendSrc
import Derived.Deep.Onto
import Derived.Test.YtnmhaipjfpongabGreatDoorPS21
namespace Go.Proofs.YtnmhaipjfpongabGreatDoor
open Go.ChangeShapes Go.WideShapes Go.ChangeAt Go.RowKit

def QI (base : Nat) (w : World) (v : Value) (l : List Nat) : Prop :=
 ∃ ao b off cap, v = .slice ao l.length cap ∧ cap ≤ maxLen ∧ (0 < cap → base ≤ b) ∧ Came w 1 ao b off l.length cap (l.map IN)

theorem QI.of_row {base : Nat} {w : World} {v : Value} {l : List Nat} (h : RowI base w v l) : QI base w v l := by
 rcases h.2 with ⟨rfl, h0⟩ | ⟨g, cap, cur, rfl, hb, hh, h1, h2, h3, h4⟩
 ·cases l with
  | cons x l => simp at h0
  | nil => exact ⟨none, 0, 0, 0, rfl, Nat.zero_le _, fun h => by omega, ⟨Nat.le_refl _, fun h => by omega, fun h => by omega, rfl, fun j u h => by simp at h, fun j h => by simp at h⟩⟩
 ·rw [Nat.mul_one] at h4
  refine ⟨_, g, 0, cap, rfl, h2, fun _ => hb, ⟨h1, fun _ => rfl, fun _ => lt_of_heap hh, by simp, fun j u hj => ?_, fun j hj => ?_⟩⟩
  ·rw [Nat.zero_add, cell_of_heap hh]
   have hlt : j < l.length := by have := (List.getElem?_eq_some_iff.1 hj).1; simpa using this
   have : (cur.toList.take l.length)[j]? = (l.map IN)[j]? := by rw [h4]
   rw [List.getElem?_take_of_lt hlt, Array.getElem?_toList] at this
   rw [this, hj]
  ·rw [Nat.mul_one] at hj
   rw [Nat.zero_add, Nat.mul_one]
   refine ⟨?_, free_of_heap hh _⟩
   rw [cell_of_heap hh, Array.getElem?_eq_getElem (by rw [h3]; omega)]
   rfl

theorem QI.later {base : Nat} {w w' : World} {v : Value} {l : List Nat} {p : Nat → Prop} (h : QI base w v l) (ho : Only p w w') (hp : ∀ b, p b → b < base) : QI base w' v l := by
 obtain ⟨ao, b, off, cap, rfl, h1, h2, hc⟩ := h
 have hn : 0 < cap → ¬ p b := fun h e => by have := hp b e; have := h2 h; omega
 refine ⟨ao, b, off, cap, rfl, h1, h2, ⟨hc.le, hc.addr, fun h => Nat.lt_of_lt_of_le (hc.lt h) ho.size, hc.oldsLen, fun j u hj => ?_, fun j hj => ?_⟩⟩
 ·have hlt := (List.getElem?_eq_some_iff.1 hj).1
  have hle := hc.le
  rw [List.length_map] at hlt
  exact ho.cellOf (hc.olds j u hj) (hn (by omega))
 ·have hcap : 0 < cap := by rw [Nat.mul_one] at hj; omega
  obtain ⟨c1, c2⟩ := hc.spare j hj
  obtain ⟨u, hu⟩ := Option.isSome_iff_exists.1 c1
  exact ⟨by rw [ho.cellOf hu (hn hcap)]; rfl, (ho.frozen (a := ⟨b, off + l.length * 1 + j, none⟩) (hc.lt hcap) (hn hcap)).trans c2⟩
theorem QI.ext {base : Nat} {w w' : World} {v : Value} {l : List Nat} (h : QI base w v l) (ho : Ext w w') : QI base w' v l := h.later ho (fun _ h => h.elim)

theorem QI.head {base : Nat} {w : World} {v : Value} {k : Nat} {l : List Nat} (h : QI base w v (k :: l)) : ∃ b off cap, v = .slice (some ⟨b, off, none⟩) (l.length + 1) cap ∧ l.length + 1 ≤ cap ∧ cap ≤ maxLen ∧ w.cell? ⟨b, off, none⟩ = some (IN k) ∧
  (cap ≠ 1 → QI base w (.slice (some ⟨b, off + 1, none⟩) l.length (cap - 1)) l) ∧ (cap = 1 → ∀ ad, QI base w (.slice ad 0 0) []) := by
 obtain ⟨ao, b, off, cap, rfl, h1, h2, hc⟩ := h
 have hle := hc.le
 rw [List.length_cons] at hle
 have hcap : 0 < cap := by omega
 have ha := hc.addr hcap
 subst ha
 refine ⟨b, off, cap, rfl, hle, h1, ?_, fun hne => ?_, fun hone ad => ?_⟩
 ·have := hc.olds 0 (IN k) rfl
  rwa [Nat.add_zero] at this
 ·refine ⟨_, b, off + 1, cap - 1, rfl, by omega, fun _ => h2 hcap, ⟨by omega, fun _ => rfl, fun _ => hc.lt hcap, by simp, fun j u hj => ?_, fun j hj => ?_⟩⟩
  ·have := hc.olds (j + 1) u (by rw [List.map_cons, List.getElem?_cons_succ]; exact hj)
   rwa [show off + (j + 1) = off + 1 + j by omega] at this
  ·have := hc.spare j (by rw [Nat.mul_one] at hj ⊢; rw [List.length_cons]; omega)
   rw [List.length_cons, Nat.mul_one] at this
   rw [Nat.mul_one, show off + 1 + l.length + j = off + (l.length + 1) + j by omega]
   exact this
 ·exact ⟨ad, 0, 0, 0, rfl, Nat.zero_le _, fun h => by omega, ⟨Nat.le_refl _, fun h => by omega, fun h => by omega, rfl, fun j u h => by simp at h, fun j h => by simp at h⟩⟩

theorem QI.form {base : Nat} {w : World} {v : Value} {l : List Nat} (h : QI base w v l) : ∃ ao cap, v = .slice ao l.length cap ∧ l.length ≤ cap ∧ cap ≤ maxLen := by
 obtain ⟨ao, b, off, cap, rfl, h1, h2, hc⟩ := h
 exact ⟨ao, cap, rfl, hc.le, h1⟩

theorem run_queue {P : Program} (hP : P = Tryz.prog) (ty : TypeId) (W : World) (base : Nat) (v vx : Value) (l k : List Nat) (hq : QI base W v l) (hrd : Rd IN W vx k) (hl : l.length + k.length ≤ 1000000) (hbase : base ≤ W.heap.size) :
  ∃ v' w', (Builtin.append_ #[63, 63] ty #[v, vx]).run P W = .ok v' w' ∧ QI base w' v' (l ++ k) ∧ Only (fun b => base ≤ b) W w' := by
 subst hP
 obtain ⟨i0, hi, hz0, hz1, hz2⟩ := info_parts infoInt
 obtain ⟨ax, cx, rfl, hcx, hmx, hc⟩ := hrd
 have hsrc : Src Tryz.prog i0.size 63 (.slice ax k.length cx) k.length (k.map IN) W := by
  rw [hz1]
  cases k with
  | nil =>
   cases ax with
   | none => exact Src.ofNil W Tryz.underlying63 cx
   | some ad => exact Src.ofSlice W Tryz.underlying63 ad _ cx [] rfl (fun j u h => by simp at h) (fun u h => by simp at h)
  | cons x k =>
   obtain ⟨b, off, rfl, hcell⟩ := hc (by simp)
   refine Src.ofSlice W Tryz.underlying63 _ _ cx _ (by simp) (fun j u hj => ?_) (fun u hu => by obtain ⟨y, _, rfl⟩ := List.mem_map.1 hu; rfl)
   rw [List.getElem?_map] at hj
   obtain ⟨y, hy, rfl⟩ := Option.map_eq_some_iff.1 hj
   rw [addrAdd]
   exact hcell j y hy
 obtain ⟨ao, b, off, cap, rfl, h1, h2, hcm⟩ := hq
 have hlk : (l ++ k).length = l.length + k.length := List.length_append
 by_cases hroom : l.length + k.length ≤ cap
 ·by_cases hcap : 0 < cap
  ·have ha := hcm.addr hcap
   subst ha
   have hb := h2 hcap
   have hsp : ∀ j, j < (k.map IN).length → (W.cell? ⟨b, off + l.length * i0.size + j, none⟩).isSome = true ∧ W.frozen? ⟨b, off + l.length * i0.size + j, none⟩ = false := fun j hj => by
    rw [List.length_map] at hj
    rw [hz1]
    exact hcm.spare j (by rw [Nat.mul_one]; omega)
   have hrun := run_append_room_src (P := Tryz.prog) W 63 63 ty 3 i0 Tryz.underlying63 hi b off l.length cap (.slice ax k.length cx) k.length (k.map IN) hsrc hroom (fun j hj => (hsp j hj).1) (fun j hj => (hsp j hj).2)
   rw [hz1, Nat.mul_one] at hrun
   have ho := only_setCells b (k.map IN) (off + l.length) W
   refine ⟨_, _, hrun, ⟨_, b, off, cap, by rw [hlk], h1, h2, ⟨by rw [hlk]; exact hroom, fun _ => rfl, fun h => Nat.lt_of_lt_of_le (hcm.lt h) ho.size, by simp, fun j u hj => ?_, fun j hj => ?_⟩⟩, ho.mono fun i _ e => by rw [e]; exact hb⟩
   ·rw [List.map_append] at hj
    by_cases hjl : j < l.length
    ·rw [List.getElem?_append_left (by simpa using hjl)] at hj
     rw [World.cell?_setCells_out b _ _ _ _ (fun _ _ => .inl (by show off + j < off + l.length; omega))]
     exact hcm.olds j u hj
    ·rw [List.getElem?_append_right (by simpa using hjl), List.length_map] at hj
     obtain ⟨hjk, hv⟩ := List.getElem?_eq_some_iff.1 hj
     have := World.cell?_setCells_in b (k.map IN) (off + l.length) W (fun t ht => by
      have := (hsp t ht).1
      rwa [hz1, Nat.mul_one] at this) (j - l.length) hjk
     rw [show off + l.length + (j - l.length) = off + j by omega] at this
     rw [this, hv]
   ·rw [hlk] at hj ⊢
    rw [Nat.mul_one] at hj ⊢
    rw [World.cell?_setCells_out b _ _ _ _ (fun _ _ => .inr (by show off + l.length + (k.map IN).length ≤ off + (l.length + k.length) + j; rw [List.length_map]; omega)), World.frozen?_setCells]
    have := hcm.spare (k.length + j) (by rw [Nat.mul_one]; omega)
    rw [Nat.mul_one, show off + l.length + (k.length + j) = off + (l.length + k.length) + j by omega] at this
    exact this
  ·obtain rfl : cap = 0 := by omega
   obtain rfl : l = [] := List.length_eq_zero_iff.1 (by omega)
   obtain rfl : k = [] := List.length_eq_zero_iff.1 (by omega)
   have hrun : (Builtin.append_ #[63, 63] ty #[.slice ao 0 0, .slice ax 0 cx]).run Tryz.prog W = .ok (.slice ao 0 0) W := by
    have hu : Tryz.prog.underlying 63 = some (.slice 3) := Tryz.underlying63
    have h3 : ∀ w', (Builtin.lenOf (.slice ax 0 cx)).run Tryz.prog w' = .ok 0 w' := hsrc.len
    have h4 : (Builtin.firstCells i0.size 0 (.slice ax 0 cx)).run Tryz.prog W = .ok #[] W := hsrc.cells
    cases ao <;> simp [Builtin.append_, run_underlying hu, sizeOf, typeInfo, hi, h3, h4, storeCells]
   exact ⟨_, _, hrun, ⟨ao, b, off, 0, rfl, h1, h2, hcm⟩, Only.refl _ _⟩
 ·have hold : (Builtin.firstCells i0.size l.length (.slice ao l.length cap)).run Tryz.prog W.drew = .ok (l.map IN).toArray W.drew := by
   rw [hz1]
   cases l with
   | nil =>
    cases ao with
    | none => exact run_firstCells_none W.drew 1 0 0 cap
    | some ad => exact run_firstCells_some W.drew 1 0 ad 0 cap [] rfl (fun j u h => by simp at h)
   | cons x l =>
    have hcap : 0 < cap := by have := hcm.le; rw [List.length_cons] at this; omega
    have ha := hcm.addr hcap
    subst ha
    refine run_firstCells_some W.drew 1 _ _ _ cap _ (by simp) (fun j u hj => ?_)
    rw [addrAdd]
    have := hcm.olds j u hj
    simpa using this
  have hrun := run_append_grow_src (P := Tryz.prog) W 63 63 ty 3 i0 (.int .i64 0) Tryz.underlying63 hi hz0 ao l.length cap (l.map IN) hold (.slice ax k.length cx) k.length (k.map IN) hsrc (by omega) (by omega) (growslice_fits (by omega) (by rw [hz2]; omega))
  have hge := grownCap_ge W (l.length + k.length) cap 3
  have hcmx := grownCap_le_maxLen W (l.length + k.length) cap 3 (by unfold maxLen; omega)
  generalize grownCap W (l.length + k.length) cap 3 = gc at hrun hge hcmx
  have hh := (MapKept.heap_alloc W.drew (.cells ((l.map IN ++ k.map IN).toArray ++ Builtin.zeroCells (Value.int .i64 0).cells (gc - (l.length + k.length))) 3 (0, 0))).1
  have hsz : W.drew.heap.size = W.heap.size := rfl
  rw [hsz] at hh
  have hcs : ((l.map IN ++ k.map IN).toArray ++ Builtin.zeroCells (Value.int .i64 0).cells (gc - (l.length + k.length))).size = gc := by
   rw [Array.size_append, size_zeroCells, List.size_toArray, List.length_append, List.length_map, List.length_map]
   show l.length + k.length + (gc - (l.length + k.length)) * 1 = gc
   omega
  have ho : Only (fun b => base ≤ b) W (W.drew.alloc (.cells ((l.map IN ++ k.map IN).toArray ++ Builtin.zeroCells (Value.int .i64 0).cells (gc - (l.length + k.length))) 3 (0, 0))) := (Only.drew _ W).then (Only.alloc _ _ _)
  refine ⟨_, _, hrun, ⟨_, W.heap.size, 0, gc, by rw [hlk], hcmx, fun _ => hbase, ⟨by rw [hlk]; exact hge, fun _ => rfl, fun _ => lt_of_heap hh, by simp, fun j u hj => ?_, fun j hj => ?_⟩⟩, ho⟩
  ·rw [Nat.zero_add, cell_of_heap hh]
   rw [List.map_append] at hj
   have hlt := (List.getElem?_eq_some_iff.1 hj).1
   rw [Array.getElem?_append_left (by simpa using hlt), List.getElem?_toArray, hj]
  ·rw [hlk] at hj ⊢
   rw [Nat.mul_one] at hj ⊢
   refine ⟨?_, free_of_heap hh _⟩
   rw [Nat.zero_add, cell_of_heap hh, Array.getElem?_eq_getElem (by rw [hcs]; omega)]
   rfl

theorem wpQueue {P : Program} (hP : P = Tryz.prog) {ops : Array Oper} {rest : List Oper} {o : Oper} {a : Act} {Q : Exit → Act → World → Prop} (s x : Operand) (base : Nat) (v vx : Value) (l k : List Nat) (W : World) (hgd : o.guard = none)
  (ho : o.op = .call { callee := .builtin .append, args := #[s, x], argTypes := #[63, 63] }) (hs : a.eval s = v) (hx : a.eval x = vx) (hq : QI base W v l) (hrd : Rd IN W vx k) (hl : l.length + k.length ≤ 1000000) (hbase : base ≤ W.heap.size)
  (hK : ∀ v' w', Hid (QI base w' v' (l ++ k)) → Hid (Only (fun b => base ≤ b) W w') → wpList P ops Q rest (a.put o.dst v') w') :
  wpList P ops Q (o :: rest) a W := by
 refine wpList_plain hgd fun K hK' => ?_
 obtain ⟨v', w', hrun, h1, h2⟩ := run_queue hP o.type W base v vx l k hq hrd hl hbase
 unfold Oper.wp
 simp [execOp, ho, resolve, invoke, builtin, hs, hx, hrun, Result.andThen]
 exact hK' _ _ (hK v' w' (Lib.hid h1) (Lib.hid h2))
end Go.Proofs.YtnmhaipjfpongabGreatDoor
