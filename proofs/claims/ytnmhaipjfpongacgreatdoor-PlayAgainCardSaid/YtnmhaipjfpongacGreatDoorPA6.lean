/- Texts of this seat laid together for one claim: E2, E3, Q8. No condition of its own: what each proves stands with its theorems. -/
import Derived.Test.YtnmhaipjfpongacGreatDoorPA0
import Derived.Lib.Hide
import Derived.Test.YtnmhaipjfpongacGreatDoorPA5
namespace Go.Proofs.YtnmhaipjfpongacGreatDoor
open Go.RowKit Go.Extern.Stop Go.Stop Go.Extern

theorem asValueOfT (t : Addr) (w : World) : (ReflectliteValue.unpack (.iface 239 (.pointer (some t)))).run Tryz.prog w
  = .ok (.agg #[.pointer (some ⟨26, 239, none⟩), .pointer (some ⟨w.heap.size, 0, none⟩), .int .u64 150]) (w.alloc (.cells #[.pointer (some t)] 239)) := by kernel_rfl
theorem asTypeT (a : Addr) (w : World) : (ReflectliteValue.methodAny (ReflectliteValue.valueError "reflectlite.Value.Type" 0) (fun t _ _ _ => ReflectliteType.toType t) #[.agg #[.pointer (some ⟨26, 239, none⟩), .pointer (some a), .int .u64 150]]).run Tryz.prog w
  = .ok (.iface 326 (.agg #[.pointer (some ⟨26, 239, none⟩)])) w := by kernel_rfl
theorem asMethodKind (h : Value) (w : World) : (Go.method 529 326 (.agg #[h]) "Kind").run Tryz.prog w = .ok (360, h) w := by kernel_rfl
theorem asKindT (w : World) : (callFunc 360 #[.pointer (some ⟨26, 239, none⟩)]).run Tryz.prog w = .ok (.value (.int .u8 22)) w := by kernel_rfl
theorem asKindE (w : World) : (callFunc 360 #[.pointer (some ⟨26, 226, none⟩)]).run Tryz.prog w = .ok (.value (.int .u8 22)) w := by kernel_rfl

theorem rlm (z : Sem Value) (f : TypeId → Addr → Nat → Nat → Sem Value) (v : Value) :
  ReflectliteValue.method z f #[v] = (do match ← ReflectliteValue.parts v with | none => z | some (t, a, fl) => f t a fl (fl % 32)) := rfl
theorem asPartsT (a : Addr) (w : World) : (ReflectliteValue.parts (.agg #[.pointer (some ⟨26, 239, none⟩), .pointer (some a), .int .u64 150])).run Tryz.prog w = .ok (some (239, a, 150)) w := by kernel_rfl
theorem asIsNilT (a p : Addr) (W : World) (ha : W.cell? a = some (.pointer (some p))) :
  (ReflectliteValue.method (ReflectliteValue.valueError "reflectlite.Value.IsNil" 0) ReflectliteValue.isNil #[.agg #[.pointer (some ⟨26, 239, none⟩), .pointer (some a), .int .u64 150]]).run Tryz.prog W = .ok (.bool false) W := by
 rw [rlm]
 simp only [Sem.run_bind, asPartsT, Result.andThen]
 simp [ReflectliteValue.isNil, loadVar, isAgg, underlying, Tryz.underlying239, ha, Result.andThen]

theorem asMethodElem (h : Value) (w : World) : (Go.method 529 326 (.agg #[h]) "Elem").run Tryz.prog w = .ok (373, .agg #[h]) w := by kernel_rfl
theorem asMethodImplements (h : Value) (w : World) : (Go.method 529 326 (.agg #[h]) "Implements").run Tryz.prog w = .ok (374, .agg #[h]) w := by kernel_rfl
theorem asMethodAssignableTo (h : Value) (w : World) : (Go.method 529 326 (.agg #[h]) "AssignableTo").run Tryz.prog w = .ok (371, .agg #[h]) w := by kernel_rfl
theorem asElemT (w : World) : (callFunc 373 #[.agg #[.pointer (some ⟨26, 239, none⟩)]]).run Tryz.prog w = .ok (.value (.iface 326 (.agg #[.pointer (some ⟨26, 226, none⟩)]))) w := by kernel_rfl
theorem asImplementsE (w : World) : (callFunc 374 #[.agg #[.pointer (some ⟨26, 226, none⟩)], .iface 326 (.agg #[.pointer (some ⟨26, 32, none⟩)])]).run Tryz.prog w = .ok (.value (.bool true)) w := by kernel_rfl
theorem asTypeOfE (v : Value) (w : World) : (callFunc 218 #[.iface 226 v]).run Tryz.prog w = .ok (.value (.iface 326 (.agg #[.pointer (some ⟨26, 226, none⟩)]))) w := by kernel_rfl
theorem asTypeOfS (v : Value) (w : World) : (callFunc 218 #[.iface 390 v]).run Tryz.prog w = .ok (.value (.iface 326 (.agg #[.pointer (some ⟨26, 390, none⟩)]))) w := by kernel_rfl
theorem asAssignableE (w : World) : (callFunc 371 #[.agg #[.pointer (some ⟨26, 226, none⟩)], .iface 326 (.agg #[.pointer (some ⟨26, 226, none⟩)])]).run Tryz.prog w = .ok (.value (.bool true)) w := by kernel_rfl
theorem asAssignableS (w : World) : (callFunc 371 #[.agg #[.pointer (some ⟨26, 390, none⟩)], .iface 326 (.agg #[.pointer (some ⟨26, 226, none⟩)])]).run Tryz.prog w = .ok (.value (.bool false)) w := by kernel_rfl
theorem asValueOfE (e : Addr) (w : World) : (ReflectliteValue.unpack (.iface 226 (.pointer (some e)))).run Tryz.prog w
  = .ok (.agg #[.pointer (some ⟨26, 226, none⟩), .pointer (some ⟨w.heap.size, 0, none⟩), .int .u64 150]) (w.alloc (.cells #[.pointer (some e)] 226)) := by kernel_rfl
theorem noAsS (v : Value) (xT : TypeId) (w : World) : (Instr.typeAssert (.iface 390 v) xT 330 true).run Tryz.prog w = .ok (.tuple #[.nilIface, .bool false]) w := run_typeAssert_lacksB Tryz.underlying330 (by kernel_rfl) (by kernel_rfl) v xT w

theorem asElemOfT (w : World) : (Rtype.elem? 239).run Tryz.prog w = .ok (some 226) w := by kernel_rfl
theorem asMkE (p : Addr) (w : World) : (ReflectliteValue.mk 226 p ReflectliteValue.flagAddr).run Tryz.prog w = .ok (.agg #[.pointer (some ⟨26, 226, none⟩), .pointer (some p), .int .u64 406]) w := by kernel_rfl
theorem asElemV (a p : Addr) (W : World) (ha : W.cell? a = some (.pointer (some p))) :
  (ReflectliteValue.method (ReflectliteValue.valueError "reflectlite.Value.Elem" 0) ReflectliteValue.elem #[.agg #[.pointer (some ⟨26, 239, none⟩), .pointer (some a), .int .u64 150]]).run Tryz.prog W
   = .ok (.agg #[.pointer (some ⟨26, 226, none⟩), .pointer (some p), .int .u64 406]) W := by
 rw [rlm]
 simp only [Sem.run_bind, asPartsT, Result.andThen]
 simp [ReflectliteValue.elem, loadVar, isAgg, underlying, Tryz.underlying239, ha, Result.andThen, asElemOfT, asMkE]
theorem rls (v x : Value) : ReflectliteValue.set #[v, x] = (do
  let (some (dst, a, fl), some (src, b, _)) := (← ReflectliteValue.parts v, ← ReflectliteValue.parts x)
   | unsupported (.noEntry "extern/(internal/reflectlite.Value).Set.zeroValue")
  if fl / ReflectliteValue.flagAddr % 2 == 0 then unsupported (.noEntry "extern/(internal/reflectlite.Value).Set.unaddressable")
  let val ← loadVar src b
  if ← Rtype.directlyAssignable dst src then storeVar dst a val
  else if ← Rtype.implements dst src then
   if (← Rtype.kind src) == 20 then
    match val with
    | .nilIface => unsupported (.noEntry "extern/reflectlite: a nil value of one interface type handed on as a value of another")
    | _ => storeVar dst a val
   else storeVar dst a (.iface src val)
  else panicString ("reflectlite.Set: value of type " ++ (← Rtype.spelt src) ++ " is not assignable to type " ++ (← Rtype.spelt dst))
  pure (.tuple #[])) := rfl
theorem asPartsEa (a : Addr) (w : World) : (ReflectliteValue.parts (.agg #[.pointer (some ⟨26, 226, none⟩), .pointer (some a), .int .u64 406])).run Tryz.prog w = .ok (some (226, a, 406)) w := by kernel_rfl
theorem asPartsE (a : Addr) (w : World) : (ReflectliteValue.parts (.agg #[.pointer (some ⟨26, 226, none⟩), .pointer (some a), .int .u64 150])).run Tryz.prog w = .ok (some (226, a, 150)) w := by kernel_rfl
theorem asDirectE (w : World) : (Rtype.directlyAssignable 226 226).run Tryz.prog w = .ok true w := by kernel_rfl
theorem asSetE (ta b e : Addr) (old : Value) (W : World) (hb : W.cell? b = some (.pointer (some e))) (ht : W.cell? ta = some old) (hf : W.frozen? ta = false) :
  (ReflectliteValue.set #[.agg #[.pointer (some ⟨26, 226, none⟩), .pointer (some ta), .int .u64 406], .agg #[.pointer (some ⟨26, 226, none⟩), .pointer (some b), .int .u64 150]]).run Tryz.prog W
   = .ok (.tuple #[]) (W.setCell ta (.pointer (some e))) := by
 rw [rls]
 simp only [Sem.run_bind, asPartsEa, asPartsE, Result.andThen]
 simp [ReflectliteValue.flagAddr, loadVar, isAgg, underlying, Tryz.underlying226, hb, Result.andThen, asDirectE, storeVar, Value.cells, storeCells, Addr.add]
 rw [run_store Tryz.prog W ta _ _ (by rfl)]
 simp [ht, hf]

def errType : Value := .iface 326 (.agg #[.pointer (some ⟨26, 32, none⟩)])

set_option maxHeartbeats 4000000 in
theorem as_hit (e t : Addr) (old : Value) (w : World) (hg0 : w.cell? ⟨12, 0, none⟩ = some errType) (ht0 : w.cell? t = some old) (hf0 : w.frozen? t = false) :
  Calls Tryz.prog 168 #[.iface 226 (.pointer (some e)), .iface 239 (.pointer (some t))] w fun ev w' => ev = .returned (.bool true) ∧ w' = ((((w.alloc (.cells #[.pointer (some t)] 239)).alloc (.cells #[.pointer (some ⟨26, 239, none⟩), .pointer (some ⟨w.heap.size, 0, none⟩), .int .u64 150] 280)).alloc (.cells #[.pointer (some ⟨26, 239, none⟩), .pointer (some ⟨w.heap.size, 0, none⟩), .int .u64 150] 280)).alloc (.cells #[.pointer (some e)] 226)).setCell t (.pointer (some e)) := by
 have hg : w.cell? ⟨12, 0, none⟩ = some (.iface 326 (.agg #[.pointer (some ⟨26, 32, none⟩)])) := hg0
 have h6 := @run_callFunc_extern Tryz.prog 214 _ (fun args => ReflectliteValue.unpack (args.getD 0 (.tuple #[]))) Tryz.func214 (by kernel_rfl) (by kernel_rfl) (by kernel_rfl) (by kernel_rfl)
 have h7 := @run_callFunc_extern Tryz.prog 215 _ (ReflectliteValue.methodAny (ReflectliteValue.valueError "reflectlite.Value.Type" 0) (fun t _ _ _ => ReflectliteType.toType t)) Tryz.func215 (by kernel_rfl) (by kernel_rfl) (by kernel_rfl) (by kernel_rfl)
 have h8 := @run_callFunc_extern Tryz.prog 216 _ (ReflectliteValue.method (ReflectliteValue.valueError "reflectlite.Value.IsNil" 0) ReflectliteValue.isNil) Tryz.func216 (by kernel_rfl) (by kernel_rfl) (by kernel_rfl) (by kernel_rfl)
 have h11 := @run_callFunc_extern Tryz.prog 279 _ (ReflectliteValue.method (ReflectliteValue.valueError "reflectlite.Value.Elem" 0) ReflectliteValue.elem) Tryz.func279 (by kernel_rfl) (by kernel_rfl) (by kernel_rfl) (by kernel_rfl)
 have h12 := @run_callFunc_extern Tryz.prog 280 _ ReflectliteValue.set Tryz.func280 (by kernel_rfl) (by kernel_rfl) (by kernel_rfl) (by kernel_rfl)
 have tO := asTypeOfE
 have mA := asMethodAssignableTo
 have a25 := asAssignableE
 have v25 := asValueOfE
 have f6 := asValueOfT
 have f7 := asTypeT
 have mK := asMethodKind
 have mE := asMethodElem
 have mI := asMethodImplements
 have k27 := asKindT
 have k25 := asKindE
 have e27 := asElemT
 have i25 := asImplementsE
 have n8 := asIsNilT ⟨w.heap.size, 0, none⟩ t ((w.alloc (.cells #[.pointer (some t)] 239)).alloc (.cells #[.pointer (some ⟨26, 239, none⟩), .pointer (some ⟨w.heap.size, 0, none⟩), .int .u64 150] 280)) (by simp)
 have hlt : 12 < w.heap.size := lt_of_cell hg
 have hg2 : ((w.alloc (.cells #[.pointer (some t)] 239)).alloc (.cells #[.pointer (some ⟨26, 239, none⟩), .pointer (some ⟨w.heap.size, 0, none⟩), .int .u64 150] 280)).cell? ⟨12, 0, none⟩ = some (.iface 326 (.agg #[.pointer (some ⟨26, 32, none⟩)])) := by
  rw [World.cell?_alloc_lt _ _ ⟨12, 0, none⟩ (by simp; omega), World.cell?_alloc_lt _ _ ⟨12, 0, none⟩ hlt]; exact hg
 have htl : t.block < w.heap.size := lt_of_cell ht0
 have el := asElemV ⟨w.heap.size, 0, none⟩ t (((w.alloc (.cells #[.pointer (some t)] 239)).alloc (.cells #[.pointer (some ⟨26, 239, none⟩), .pointer (some ⟨w.heap.size, 0, none⟩), .int .u64 150] 280)).alloc (.cells #[.pointer (some ⟨26, 239, none⟩), .pointer (some ⟨w.heap.size, 0, none⟩), .int .u64 150] 280)) (by rw [World.cell?_alloc_lt _ _ ⟨w.heap.size, 0, none⟩ (by simp; omega)]; simp)
 have st := asSetE t ⟨w.heap.size + 1 + 1 + 1, 0, none⟩ e old ((((w.alloc (.cells #[.pointer (some t)] 239)).alloc (.cells #[.pointer (some ⟨26, 239, none⟩), .pointer (some ⟨w.heap.size, 0, none⟩), .int .u64 150] 280)).alloc (.cells #[.pointer (some ⟨26, 239, none⟩), .pointer (some ⟨w.heap.size, 0, none⟩), .int .u64 150] 280)).alloc (.cells #[.pointer (some e)] 226))
  (by rw [World.cell?_alloc_at _ _ _ _ (by simp)]; rfl)
  (by rw [World.cell?_alloc_lt _ _ t (by simp; omega), World.cell?_alloc_lt _ _ t (by simp; omega), World.cell?_alloc_lt _ _ t (by simp; omega), World.cell?_alloc_lt _ _ t htl]; exact ht0)
  (by rw [World.frozen?_alloc_old _ _ t (by simp; omega), World.frozen?_alloc_old _ _ t (by simp; omega), World.frozen?_alloc_old _ _ t (by simp; omega), World.frozen?_alloc_old _ _ t (Nat.ne_of_lt htl)]; exact hf0)
 go_enter Tryz.func168, Tryz.ntmps168
 go_wp2
 refine wp_loop_rounds 1 ?_
 rw [rounds_succ]
 go_wp2
 go_ret
 exact ⟨rfl, rfl⟩

set_option maxHeartbeats 4000000 in
theorem as_miss (s t : Addr) (w : World) (hg0 : w.cell? ⟨12, 0, none⟩ = some errType) :
  Calls Tryz.prog 168 #[.iface 390 (.pointer (some s)), .iface 239 (.pointer (some t))] w fun ev w' => ev = .returned (.bool false) ∧ Ext w w' := by
 have hg : w.cell? ⟨12, 0, none⟩ = some (.iface 326 (.agg #[.pointer (some ⟨26, 32, none⟩)])) := hg0
 have h6 := @run_callFunc_extern Tryz.prog 214 _ (fun args => ReflectliteValue.unpack (args.getD 0 (.tuple #[]))) Tryz.func214 (by kernel_rfl) (by kernel_rfl) (by kernel_rfl) (by kernel_rfl)
 have h7 := @run_callFunc_extern Tryz.prog 215 _ (ReflectliteValue.methodAny (ReflectliteValue.valueError "reflectlite.Value.Type" 0) (fun t _ _ _ => ReflectliteType.toType t)) Tryz.func215 (by kernel_rfl) (by kernel_rfl) (by kernel_rfl) (by kernel_rfl)
 have h8 := @run_callFunc_extern Tryz.prog 216 _ (ReflectliteValue.method (ReflectliteValue.valueError "reflectlite.Value.IsNil" 0) ReflectliteValue.isNil) Tryz.func216 (by kernel_rfl) (by kernel_rfl) (by kernel_rfl) (by kernel_rfl)
 have tO := asTypeOfS
 have mA := asMethodAssignableTo
 have a25 := asAssignableS
 have f6 := asValueOfT
 have f7 := asTypeT
 have mK := asMethodKind
 have mE := asMethodElem
 have mI := asMethodImplements
 have k27 := asKindT
 have k25 := asKindE
 have e27 := asElemT
 have i25 := asImplementsE
 have nA := noAsS
 have uE := noUnwrapE
 have vE := noUnwrapsE
 have n8 := asIsNilT ⟨w.heap.size, 0, none⟩ t ((w.alloc (.cells #[.pointer (some t)] 239)).alloc (.cells #[.pointer (some ⟨26, 239, none⟩), .pointer (some ⟨w.heap.size, 0, none⟩), .int .u64 150] 280)) (by simp)
 have hlt : 12 < w.heap.size := lt_of_cell hg
 have hg2 : ((w.alloc (.cells #[.pointer (some t)] 239)).alloc (.cells #[.pointer (some ⟨26, 239, none⟩), .pointer (some ⟨w.heap.size, 0, none⟩), .int .u64 150] 280)).cell? ⟨12, 0, none⟩ = some (.iface 326 (.agg #[.pointer (some ⟨26, 32, none⟩)])) := by
  rw [World.cell?_alloc_lt _ _ ⟨12, 0, none⟩ (by simp; omega), World.cell?_alloc_lt _ _ ⟨12, 0, none⟩ hlt]; exact hg
 go_enter Tryz.func168, Tryz.ntmps168
 go_wp2
 refine wp_loop_rounds 1 ?_
 rw [rounds_succ]
 go_wp2
 go_ret
 refine ⟨rfl, ?_⟩
 repeat' (first | with_reducible exact Only.refl _ _ | apply Only.thenAlloc)
end Go.Proofs.YtnmhaipjfpongacGreatDoor

namespace Go.Proofs.YtnmhaipjfpongacGreatDoor
open Go.ChangeShapes Go.WideShapes Go.ChangeAt Go.RowKit

def errVars : List Nat := [8, 2, 0, 9, 10, 1, 3, 4, 7, 11, 6, 5]

abbrev errV (a : Addr) : Value := .iface 390 (.pointer (some a))

structure Sents (w : World) (p : Nat → Addr) : Prop where
 var : ∀ i g, errVars[i]? = some g → w.cell? ⟨g, 0, none⟩ = some (errV (p i))
 row : ∀ i, i < 12 → ∃ c t, w.heap[(p i).block]? = some (.cells c t (0, 0))
 apart : ∀ i j, i < 12 → j < 12 → p i = p j → i = j
 typ : w.cell? ⟨12, 0, none⟩ = some errType

theorem Sents.ext {w w' : World} {p : Nat → Addr} (h : Sents w p) (ho : Ext w w') : Sents w' p :=
 ⟨fun i g hg => ho.cellOf (h.var i g hg) (fun h => h), fun i hi => by obtain ⟨c, t, hc⟩ := h.row i hi; exact ⟨c, t, ho.heapOf hc (fun h => h)⟩, h.apart, ho.cellOf h.typ (fun h => h)⟩

structure Errs (w : World) (p : Nat → Addr) (L : List Nat) : Prop where
 var : ∀ i g, i ∈ L → errVars[i]? = some g → w.cell? ⟨g, 0, none⟩ = some (errV (p i))
theorem Errs.ext {w w' : World} {p : Nat → Addr} {L : List Nat} (h : Errs w p L) (ho : Ext w w') : Errs w' p L := ⟨fun i g hi hg => ho.cellOf (h.var i g hi hg) (fun h => h)⟩
theorem Errs.sub {w : World} {p : Nat → Addr} {L K : List Nat} (h : Errs w p L) (hk : ∀ i ∈ K, i ∈ L) : Errs w p K := ⟨fun i g hi hg => h.var i g (hk i hi) hg⟩
theorem Sents.errs {w : World} {p : Nat → Addr} (h : Sents w p) (L : List Nat) : Errs w p L := ⟨fun i g _ hg => h.var i g hg⟩

def CodeIs (w : World) (c at_ : Int) (e : Ending) (w' : World) : Prop := e = .returned (.tuple #[I c, I at_]) ∧ Ext w w'

theorem code_nil (w : World) : Calls Tryz.prog 96 #[.nilIface] w (CodeIs w 0 (-1)) := by
 go_enter Tryz.func96, Tryz.ntmps96
 go_wp2
 go_ret2
 exact ⟨rfl, Only.refl _ _⟩

abbrev errCells (p : Nat → Addr) : Array Value := #[errV (p 0), errV (p 1), errV (p 2), errV (p 3), errV (p 4), errV (p 5), errV (p 6), errV (p 7), errV (p 8), errV (p 9), errV (p 10), errV (p 11)]

theorem errCells_at (p : Nat → Addr) (k : Nat) (hk : k < 12) : (errCells p)[k]? = some (errV (p k)) := by
 have : k = 0 ∨ k = 1 ∨ k = 2 ∨ k = 3 ∨ k = 4 ∨ k = 5 ∨ k = 6 ∨ k = 7 ∨ k = 8 ∨ k = 9 ∨ k = 10 ∨ k = 11 := by omega
 rcases this with rfl | rfl | rfl | rfl | rfl | rfl | rfl | rfl | rfl | rfl | rfl | rfl <;> rfl

set_option maxHeartbeats 2000000 in
theorem code_err (w : World) (p : Nat → Addr) (hs : Sents w p) (a : Addr) (i0 : Nat) (hi : i0 ≤ 12) (heq : i0 < 12 → p i0 = a) (hne : ∀ j, j < 12 → j ≠ i0 → p j ≠ a) (ca : Array Value) (ta : TypeId) (ha : w.heap[a.block]? = some (.cells ca ta (0, 0))) :
  Calls Tryz.prog 96 #[errV a] w (CodeIs w (if i0 < 12 then (i0 : Int) + 1 else -1) (-1)) := by
 obtain ⟨c, hc⟩ : ∃ c : Int, Hid (c = if i0 < 12 then (i0 : Int) + 1 else -1) := ⟨_, Lib.hid rfl⟩
 rw [← hc.out]
 have HS := Lib.hid hs
 have HA := Lib.hid ha
 have HE := Lib.hid heq
 have HN := Lib.hid hne
 clear hs ha heq hne
 go_enter Tryz.func96, Tryz.ntmps96
 go_wp2_with fail
 refine (as_miss a ⟨w.heap.size, 0, none⟩ _ ((Only.alloc (fun _ => False) w _).cellOf HS.out.typ (fun h => h))).mono ?_
 rintro e w2 ⟨rfl, ho⟩
 have h2 : Ext w w2 := (Only.alloc (fun _ => False) w _).ext ho
 have s2 := HS.out.ext h2
 have q0 := s2.var 0 _ rfl
 have q1 := s2.var 1 _ rfl
 have q2 := s2.var 2 _ rfl
 have q3 := s2.var 3 _ rfl
 have q4 := s2.var 4 _ rfl
 have q5 := s2.var 5 _ rfl
 have q6 := s2.var 6 _ rfl
 have q7 := s2.var 7 _ rfl
 have q8 := s2.var 8 _ rfl
 have q9 := s2.var 9 _ rfl
 have q10 := s2.var 10 _ rfl
 have q11 := s2.var 11 _ rfl
 have S2 := Lib.hid s2
 have H2 := Lib.hid h2
 clear s2 h2 ho
 go_wp2_with fail
 have hcell : ∀ k, k < 12 → (w2.alloc (.cells (errCells p) 32)).cell? ⟨w2.heap.size, k, none⟩ = some (errV (p k)) := fun k hk => (cell_of_heap (MapKept.heap_alloc w2 _).1 k).trans (errCells_at p k hk)
 have hrow : ∀ k, k < 12 → ∃ c t, (w2.alloc (.cells (errCells p) 32)).heap[(p k).block]? = some (.cells c t (0, 0)) := fun k hk => by
  obtain ⟨c, t, h⟩ := S2.out.row k hk
  exact ⟨c, t, (Only.alloc (fun _ => False) w2 _).heapOf h (fun h => h)⟩
 have harow : (w2.alloc (.cells (errCells p) 32)).heap[a.block]? = some (.cells ca ta (0, 0)) := (H2.out.thenAlloc _).heapOf HA.out (fun h => h)
 have hext : Ext w (w2.alloc (.cells (errCells p) 32)) := H2.out.thenAlloc _
 generalize (w2.alloc (.cells (errCells p) 32)) = w3 at hcell hrow harow hext ⊢
 have HC := Lib.hid hcell
 have HR := Lib.hid hrow
 have HB := Lib.hid harow
 have HX := Lib.hid hext
 clear hcell hrow harow hext q0 q1 q2 q3 q4 q5 q6 q7 q8 q9 q10 q11
 generalize w2.heap.size = blk at HC ⊢
 go_loop [3, 30] (fun t i => t = .int .i64 (-1) ∧ ∃ k : Nat, k ≤ i0 ∧ i = .int .i64 k) (fun _ i => 13 - (intOf i).toNat)
 case atStart => exact ⟨rfl, 0, Nat.zero_le _, rfl⟩
 case round =>
  obtain ⟨rfl, k, hk, rfl⟩ := hrel
  by_cases hlt : k < 12
  ·have hkc := HC.out k hlt
   have hltz : (k : Int) < 12 := by omega
   by_cases hki : k = i0
   ·subst hki
    have hp := HE.out hlt
    rw [hp] at hkc
    clear hp
    go_wp2_with (go_at_call 169; refine (is_same a _).mono ?_; rintro e w' ⟨rfl, rfl⟩)
    go_ret2
    refine ⟨?_, HX.out⟩
    rw [hc.out, if_pos hlt]
    rfl
   ·obtain ⟨c1, t1, hr1⟩ := HR.out k hlt
    have hpne := HN.out k hlt hki
    have hkl : k < i0 := by omega
    have hio := is_other a (p k) ca c1 ta t1 w3 (Ne.symm hpne) HB.out hr1
    have HI := Lib.hid hio
    clear hr1 hpne hio hki
    go_wp2_with (go_at_call 169; refine HI.out.mono ?_; rintro e w' ⟨rfl, rfl⟩)
    go_round
    case rel => exact ⟨rfl, k + 1, by omega, by go_num⟩
    case measure => simp [intOf]; omega
  ·have hltz : ¬ ((k : Int) < 12) := by omega
   have hk12 : k = 12 := by omega
   have hi12 : ¬ i0 < 12 := by omega
   go_wp2_with fail
   go_ret2
   refine ⟨?_, HX.out⟩
   rw [hc.out, if_neg hi12]
   rfl
theorem cell_set_same (w : World) (b : Nat) (v : Value) {old : Value} {a : Addr} (h : w.cell? a = some old) (ha : a = ⟨b, 0, none⟩) : (w.setCell a v).cell? ⟨b, 0, none⟩ = some v := by
 subst ha
 unfold World.cell? at h ⊢
 simp only [World.setCell, Array.getElem?_modify, if_true]
 cases hh : w.heap[b]? with
 | none => rw [hh] at h; cases h
 | some o =>
  rw [hh] at h
  cases o with
  | cells c e fr =>
   simp at h
   have hl : 0 < c.size := (Array.getElem?_eq_some_iff.1 h).1
   simp [hl]
  | _ => cases h

set_option maxHeartbeats 2000000 in
theorem code_fault (w : World) (p : Nat → Addr) (hs : Sents w p) (pb i0 : Nat) (at_ : Int) (hi : i0 < 12) (ha0 : w.cell? ⟨pb, 0, none⟩ = some (I at_)) (ha1 : w.cell? ⟨pb, 1, none⟩ = some (errV (p i0))) :
  Calls Tryz.prog 96 #[.iface 226 (.pointer (some ⟨pb, 0, none⟩))] w (CodeIs w ((i0 : Int) + 1) at_) := by
 have HS := Lib.hid hs
 have HA0 := Lib.hid ha0
 have HA1 := Lib.hid ha1
 clear hs ha0 ha1
 go_enter Tryz.func96, Tryz.ntmps96
 go_wp2_with fail
 refine (as_hit ⟨pb, 0, none⟩ ⟨w.heap.size, 0, none⟩ (.pointer none) _ ((Only.alloc (fun _ => False) w _).cellOf HS.out.typ (fun h => h)) (by simp) (by simp)).mono ?_
 rintro e w2 ⟨rfl, hw2⟩
 have hb2 : w2.cell? ⟨w.heap.size, 0, none⟩ = some (.pointer (some ⟨pb, 0, none⟩)) := by
  rw [hw2]
  refine cell_set_same _ _ _ (Only.cellOf (p := fun _ => False) ?_ ((cell_of_heap (MapKept.heap_alloc w (.cells #[.pointer none] 226)).1 0).trans rfl) (fun h => h)) rfl
  repeat' (first | with_reducible exact Only.refl _ _ | apply Only.thenAlloc)
 have h2 : Ext w w2 := by
  rw [hw2]
  refine Only.thenSet ?_ _ (.inr (Nat.le_refl _))
  repeat' (first | with_reducible exact Only.refl _ _ | apply Only.thenAlloc)
 clear hw2
 have s2 := HS.out.ext h2
 have c0 := h2.cellOf HA0.out (fun h => h)
 have q0 := s2.var 0 _ rfl
 have q1 := s2.var 1 _ rfl
 have q2 := s2.var 2 _ rfl
 have q3 := s2.var 3 _ rfl
 have q4 := s2.var 4 _ rfl
 have q5 := s2.var 5 _ rfl
 have q6 := s2.var 6 _ rfl
 have q7 := s2.var 7 _ rfl
 have q8 := s2.var 8 _ rfl
 have q9 := s2.var 9 _ rfl
 have q10 := s2.var 10 _ rfl
 have q11 := s2.var 11 _ rfl
 have S2 := Lib.hid s2
 have H2 := Lib.hid h2
 clear s2 h2
 go_wp2_with fail
 have hcell : ∀ k, k < 12 → (w2.alloc (.cells (errCells p) 32)).cell? ⟨w2.heap.size, k, none⟩ = some (errV (p k)) := fun k hk => (cell_of_heap (MapKept.heap_alloc w2 _).1 k).trans (errCells_at p k hk)
 have hrow : ∀ k, k < 12 → ∃ c t, (w2.alloc (.cells (errCells p) 32)).heap[(p k).block]? = some (.cells c t (0, 0)) := fun k hk => by
  obtain ⟨c, t, h⟩ := S2.out.row k hk
  exact ⟨c, t, (Only.alloc (fun _ => False) w2 _).heapOf h (fun h => h)⟩
 have h1c : (w2.alloc (.cells (errCells p) 32)).cell? ⟨pb, 1, none⟩ = some (errV (p i0)) := (H2.out.thenAlloc _).cellOf HA1.out (fun h => h)
 have hext : Ext w (w2.alloc (.cells (errCells p) 32)) := H2.out.thenAlloc _
 generalize (w2.alloc (.cells (errCells p) 32)) = w3 at hcell hrow h1c hext ⊢
 have HC := Lib.hid hcell
 have HR := Lib.hid hrow
 have HB := Lib.hid h1c
 have HX := Lib.hid hext
 clear hcell hrow h1c hext c0 q0 q1 q2 q3 q4 q5 q6 q7 q8 q9 q10 q11
 generalize w2.heap.size = blk at HC ⊢
 go_loop [3, 30] (fun t i => t = .int .i64 at_ ∧ ∃ k : Nat, k ≤ i0 ∧ i = .int .i64 k) (fun _ i => 13 - (intOf i).toNat)
 case atStart => exact ⟨rfl, 0, Nat.zero_le _, rfl⟩
 case round =>
  obtain ⟨rfl, k, hk, rfl⟩ := hrel
  by_cases hlt : k < 12
  ·have hkc := HC.out k hlt
   have hltz : (k : Int) < 12 := by omega
   by_cases hki : k = i0
   ·subst hki
    have hio := is_fault_same pb (p k) w3 HB.out
    have HI := Lib.hid hio
    clear hio
    go_wp2_with (go_at_call 169; refine HI.out.mono ?_; rintro e w' ⟨rfl, rfl⟩)
    go_ret2
    exact ⟨rfl, HX.out⟩
   ·obtain ⟨c1, t1, hr1⟩ := HR.out k hlt
    obtain ⟨c2, t2, hr2⟩ := HR.out i0 hi
    have hkl : k < i0 := by omega
    have hpne : p i0 ≠ p k := fun e => hki (HS.out.apart k i0 hlt hi e.symm)
    have hio := is_fault_other pb (p k) (p i0) c2 c1 t2 t1 w3 HB.out hpne hr2 hr1
    have HI := Lib.hid hio
    clear hr1 hr2 hpne hio hki
    go_wp2_with (go_at_call 169; refine HI.out.mono ?_; rintro e w' ⟨rfl, rfl⟩)
    go_round
    case rel => exact ⟨rfl, k + 1, by omega, by go_num⟩
    case measure => simp [intOf]; omega
  ·omega

end Go.Proofs.YtnmhaipjfpongacGreatDoor

namespace Go.Proofs.YtnmhaipjfpongacGreatDoor
open Go.ChangeShapes Go.WideShapes Go.ChangeAt Go.RowKit
open Go.MapKept (heap_alloc)
def RdC (w : World) (v : Value) (l : List B) : Prop :=
 ∃ a cap, v = .slice a l.length cap ∧ l.length ≤ cap ∧ cap ≤ 1000000 ∧ (l ≠ [] → ∃ b off, a = some ⟨b, off, none⟩ ∧ ∀ i x, l[i]? = some x → w.cell? ⟨b, off + i, none⟩ = some (S x))

theorem RdC.ext {w w' : World} {v : Value} {l : List B} (h : RdC w v l) (ho : Ext w w') : RdC w' v l := by
 obtain ⟨a, cap, rfl, h1, h2, h3⟩ := h
 refine ⟨a, cap, rfl, h1, h2, fun hl => ?_⟩
 obtain ⟨b, off, rfl, hc⟩ := h3 hl
 exact ⟨b, off, rfl, fun i x hx => ho.cellOf (hc i x hx) (fun h => h)⟩

theorem eqNil_some (a : Addr) (n c : Nat) (w : World) : (binOp .eql 53 (.slice (some a) n c) (.slice none 0 0)).run Tryz.prog w = .ok (.bool false) w := by kernel_rfl
theorem eqNil_none (w : World) : (binOp .eql 53 (.slice none 0 0) (.slice none 0 0)).run Tryz.prog w = .ok (.bool true) w := by kernel_rfl

attribute [local go_sem] eqNil_some eqNil_none

set_option maxRecDepth 100000 in
theorem check_any (w : World) (s : B) (a : Addr) (hs : s.length ≤ 1000000) (hm : HasMax w) (he : w.cell? ⟨9, 0, none⟩ = some (errV a)) :
  Calls Tryz.prog 112 #[S s] w fun e w' => e = .returned (if pathOk s then .nilIface else errV a) ∧ Ext w w' := by
 have HP := Lib.hid (parts_any w false s hs hm)
 have HE := Lib.hid he
 clear he hm hs
 obtain ⟨r, hr⟩ : ∃ r, r = pathOk s := ⟨_, rfl⟩
 rw [← hr]
 have HR := Lib.hid hr
 clear hr
 go_enter Tryz.func112, Tryz.ntmps112
 go_wp2_with fail
 refine HP.out.mono ?_
 rintro e w' ⟨ho, ⟨hok, b, rfl, hl⟩ | ⟨hok, rfl⟩⟩
 ·have HO := Lib.hid ho
  have hr : r = true := HR.out.trans hok
  subst hr
  clear ho hl hok
  go_wp2
  go_ret
  exact ⟨rfl, HO.out⟩
 ·have HO := Lib.hid ho
  have hr : r = false := HR.out.trans hok
  subst hr
  have he := ho.cellOf HE.out (fun h => h)
  clear ho hok
  go_wp2
  go_ret
  exact ⟨rfl, HO.out⟩

end Go.Proofs.YtnmhaipjfpongacGreatDoor
