/- Texts of this seat laid together for one claim: E2, E3, Q8, T5, L1, L2. No condition of its own: what each proves stands with its theorems. -/
import Derived.Test.YtnmhaipjfpongacGreatDoorBR0
import Derived.Lib.Hide
import Derived.Test.YtnmhaipjfpongacGreatDoorBR5
import Derived.LaidHandle
import Derived.LaidLaws
namespace Go.Proofs.YtnmhaipjfpongacGreatDoor
open Go.RowKit Go.Extern.Stop Go.Stop Go.Extern

theorem asValueOfT (t : Addr) (w : World) : (ReflectliteValue.unpack (.iface 239 (.pointer (some t)))).run Tryz.prog w
  = .ok (.agg #[.pointer (some ⟨26, 239, none⟩), .pointer (some ⟨w.heap.size, 0, none⟩), .int .u64 150]) (w.alloc (.cells #[.pointer (some t)] 239)) := by kernel_rfl
theorem asTypeT (a : Addr) (w : World) : (ReflectliteValue.methodAny (ReflectliteValue.valueError "reflectlite.Value.Type" 0) (fun t _ _ _ => ReflectliteType.toType t) #[.agg #[.pointer (some ⟨26, 239, none⟩), .pointer (some a), .int .u64 150]]).run Tryz.prog w
  = .ok (.iface 326 (.agg #[.pointer (some ⟨26, 239, none⟩)])) w := by kernel_rfl
theorem asMethodKind (h : Value) (w : World) : (Go.method 529 326 (.agg #[h]) "Kind").run Tryz.prog w = .ok (360, h) w := by kernel_rfl
theorem asKindT (w : World) : (callFunc 360 #[.pointer (some ⟨26, 239, none⟩)]).run Tryz.prog w = .ok (.value (.int .u8 22)) w := by kernel_rfl
theorem asKindE (w : World) : (callFunc 360 #[.pointer (some ⟨26, 226, none⟩)]).run Tryz.prog w = .ok (.value (.int .u8 22)) w := by kernel_rfl

theorem rlm (z : Sem Value) (f : TypeId → Addr → Nat → Nat → Sem Value) (v : Value) :
  ReflectliteValue.method z f #[v] = (do match ← ReflectliteValue.parts v with | none => z | some (t, a, fl) => f t a fl (fl % 32)) := rfl
theorem asPartsT (a : Addr) (w : World) : (ReflectliteValue.parts (.agg #[.pointer (some ⟨26, 239, none⟩), .pointer (some a), .int .u64 150])).run Tryz.prog w = .ok (some (239, a, 150)) w := by kernel_rfl
theorem asIsNilT (a p : Addr) (W : World) (ha : W.cell? a = some (.pointer (some p))) :
  (ReflectliteValue.method (ReflectliteValue.valueError "reflectlite.Value.IsNil" 0) ReflectliteValue.isNil #[.agg #[.pointer (some ⟨26, 239, none⟩), .pointer (some a), .int .u64 150]]).run Tryz.prog W = .ok (.bool false) W := by
 rw [rlm]
 simp only [Sem.run_bind, asPartsT, Result.andThen]
 simp [ReflectliteValue.isNil, loadVar, isAgg, underlying, Tryz.underlying239, ha, Result.andThen]

theorem asMethodElem (h : Value) (w : World) : (Go.method 529 326 (.agg #[h]) "Elem").run Tryz.prog w = .ok (373, .agg #[h]) w := by kernel_rfl
theorem asMethodImplements (h : Value) (w : World) : (Go.method 529 326 (.agg #[h]) "Implements").run Tryz.prog w = .ok (374, .agg #[h]) w := by kernel_rfl
theorem asMethodAssignableTo (h : Value) (w : World) : (Go.method 529 326 (.agg #[h]) "AssignableTo").run Tryz.prog w = .ok (371, .agg #[h]) w := by kernel_rfl
theorem asElemT (w : World) : (callFunc 373 #[.agg #[.pointer (some ⟨26, 239, none⟩)]]).run Tryz.prog w = .ok (.value (.iface 326 (.agg #[.pointer (some ⟨26, 226, none⟩)]))) w := by kernel_rfl
theorem asImplementsE (w : World) : (callFunc 374 #[.agg #[.pointer (some ⟨26, 226, none⟩)], .iface 326 (.agg #[.pointer (some ⟨26, 32, none⟩)])]).run Tryz.prog w = .ok (.value (.bool true)) w := by kernel_rfl
theorem asTypeOfE (v : Value) (w : World) : (callFunc 218 #[.iface 226 v]).run Tryz.prog w = .ok (.value (.iface 326 (.agg #[.pointer (some ⟨26, 226, none⟩)]))) w := by kernel_rfl
theorem asTypeOfS (v : Value) (w : World) : (callFunc 218 #[.iface 390 v]).run Tryz.prog w = .ok (.value (.iface 326 (.agg #[.pointer (some ⟨26, 390, none⟩)]))) w := by kernel_rfl
theorem asAssignableE (w : World) : (callFunc 371 #[.agg #[.pointer (some ⟨26, 226, none⟩)], .iface 326 (.agg #[.pointer (some ⟨26, 226, none⟩)])]).run Tryz.prog w = .ok (.value (.bool true)) w := by kernel_rfl
theorem asAssignableS (w : World) : (callFunc 371 #[.agg #[.pointer (some ⟨26, 390, none⟩)], .iface 326 (.agg #[.pointer (some ⟨26, 226, none⟩)])]).run Tryz.prog w = .ok (.value (.bool false)) w := by kernel_rfl
theorem asValueOfE (e : Addr) (w : World) : (ReflectliteValue.unpack (.iface 226 (.pointer (some e)))).run Tryz.prog w
  = .ok (.agg #[.pointer (some ⟨26, 226, none⟩), .pointer (some ⟨w.heap.size, 0, none⟩), .int .u64 150]) (w.alloc (.cells #[.pointer (some e)] 226)) := by kernel_rfl
theorem noAsS (v : Value) (xT : TypeId) (w : World) : (Instr.typeAssert (.iface 390 v) xT 330 true).run Tryz.prog w = .ok (.tuple #[.nilIface, .bool false]) w := run_typeAssert_lacksB Tryz.underlying330 (by kernel_rfl) (by kernel_rfl) v xT w

theorem asElemOfT (w : World) : (Rtype.elem? 239).run Tryz.prog w = .ok (some 226) w := by kernel_rfl
theorem asMkE (p : Addr) (w : World) : (ReflectliteValue.mk 226 p ReflectliteValue.flagAddr).run Tryz.prog w = .ok (.agg #[.pointer (some ⟨26, 226, none⟩), .pointer (some p), .int .u64 406]) w := by kernel_rfl
theorem asElemV (a p : Addr) (W : World) (ha : W.cell? a = some (.pointer (some p))) :
  (ReflectliteValue.method (ReflectliteValue.valueError "reflectlite.Value.Elem" 0) ReflectliteValue.elem #[.agg #[.pointer (some ⟨26, 239, none⟩), .pointer (some a), .int .u64 150]]).run Tryz.prog W
   = .ok (.agg #[.pointer (some ⟨26, 226, none⟩), .pointer (some p), .int .u64 406]) W := by
 rw [rlm]
 simp only [Sem.run_bind, asPartsT, Result.andThen]
 simp [ReflectliteValue.elem, loadVar, isAgg, underlying, Tryz.underlying239, ha, Result.andThen, asElemOfT, asMkE]
theorem rls (v x : Value) : ReflectliteValue.set #[v, x] = (do
  let (some (dst, a, fl), some (src, b, _)) := (← ReflectliteValue.parts v, ← ReflectliteValue.parts x)
   | unsupported (.noEntry "extern/(internal/reflectlite.Value).Set.zeroValue")
  if fl / ReflectliteValue.flagAddr % 2 == 0 then unsupported (.noEntry "extern/(internal/reflectlite.Value).Set.unaddressable")
  let val ← loadVar src b
  if ← Rtype.directlyAssignable dst src then storeVar dst a val
  else if ← Rtype.implements dst src then
   if (← Rtype.kind src) == 20 then
    match val with
    | .nilIface => unsupported (.noEntry "extern/reflectlite: a nil value of one interface type handed on as a value of another")
    | _ => storeVar dst a val
   else storeVar dst a (.iface src val)
  else panicString ("reflectlite.Set: value of type " ++ (← Rtype.spelt src) ++ " is not assignable to type " ++ (← Rtype.spelt dst))
  pure (.tuple #[])) := rfl
theorem asPartsEa (a : Addr) (w : World) : (ReflectliteValue.parts (.agg #[.pointer (some ⟨26, 226, none⟩), .pointer (some a), .int .u64 406])).run Tryz.prog w = .ok (some (226, a, 406)) w := by kernel_rfl
theorem asPartsE (a : Addr) (w : World) : (ReflectliteValue.parts (.agg #[.pointer (some ⟨26, 226, none⟩), .pointer (some a), .int .u64 150])).run Tryz.prog w = .ok (some (226, a, 150)) w := by kernel_rfl
theorem asDirectE (w : World) : (Rtype.directlyAssignable 226 226).run Tryz.prog w = .ok true w := by kernel_rfl
theorem asSetE (ta b e : Addr) (old : Value) (W : World) (hb : W.cell? b = some (.pointer (some e))) (ht : W.cell? ta = some old) (hf : W.frozen? ta = false) :
  (ReflectliteValue.set #[.agg #[.pointer (some ⟨26, 226, none⟩), .pointer (some ta), .int .u64 406], .agg #[.pointer (some ⟨26, 226, none⟩), .pointer (some b), .int .u64 150]]).run Tryz.prog W
   = .ok (.tuple #[]) (W.setCell ta (.pointer (some e))) := by
 rw [rls]
 simp only [Sem.run_bind, asPartsEa, asPartsE, Result.andThen]
 simp [ReflectliteValue.flagAddr, loadVar, isAgg, underlying, Tryz.underlying226, hb, Result.andThen, asDirectE, storeVar, Value.cells, storeCells, Addr.add]
 rw [run_store Tryz.prog W ta _ _ (by rfl)]
 simp [ht, hf]

def errType : Value := .iface 326 (.agg #[.pointer (some ⟨26, 32, none⟩)])

set_option maxHeartbeats 4000000 in
theorem as_hit (e t : Addr) (old : Value) (w : World) (hg0 : w.cell? ⟨12, 0, none⟩ = some errType) (ht0 : w.cell? t = some old) (hf0 : w.frozen? t = false) :
  Calls Tryz.prog 168 #[.iface 226 (.pointer (some e)), .iface 239 (.pointer (some t))] w fun ev w' => ev = .returned (.bool true) ∧ w' = ((((w.alloc (.cells #[.pointer (some t)] 239)).alloc (.cells #[.pointer (some ⟨26, 239, none⟩), .pointer (some ⟨w.heap.size, 0, none⟩), .int .u64 150] 280)).alloc (.cells #[.pointer (some ⟨26, 239, none⟩), .pointer (some ⟨w.heap.size, 0, none⟩), .int .u64 150] 280)).alloc (.cells #[.pointer (some e)] 226)).setCell t (.pointer (some e)) := by
 have hg : w.cell? ⟨12, 0, none⟩ = some (.iface 326 (.agg #[.pointer (some ⟨26, 32, none⟩)])) := hg0
 have h6 := @run_callFunc_extern Tryz.prog 214 _ (fun args => ReflectliteValue.unpack (args.getD 0 (.tuple #[]))) Tryz.func214 (by kernel_rfl) (by kernel_rfl) (by kernel_rfl) (by kernel_rfl)
 have h7 := @run_callFunc_extern Tryz.prog 215 _ (ReflectliteValue.methodAny (ReflectliteValue.valueError "reflectlite.Value.Type" 0) (fun t _ _ _ => ReflectliteType.toType t)) Tryz.func215 (by kernel_rfl) (by kernel_rfl) (by kernel_rfl) (by kernel_rfl)
 have h8 := @run_callFunc_extern Tryz.prog 216 _ (ReflectliteValue.method (ReflectliteValue.valueError "reflectlite.Value.IsNil" 0) ReflectliteValue.isNil) Tryz.func216 (by kernel_rfl) (by kernel_rfl) (by kernel_rfl) (by kernel_rfl)
 have h11 := @run_callFunc_extern Tryz.prog 279 _ (ReflectliteValue.method (ReflectliteValue.valueError "reflectlite.Value.Elem" 0) ReflectliteValue.elem) Tryz.func279 (by kernel_rfl) (by kernel_rfl) (by kernel_rfl) (by kernel_rfl)
 have h12 := @run_callFunc_extern Tryz.prog 280 _ ReflectliteValue.set Tryz.func280 (by kernel_rfl) (by kernel_rfl) (by kernel_rfl) (by kernel_rfl)
 have tO := asTypeOfE
 have mA := asMethodAssignableTo
 have a25 := asAssignableE
 have v25 := asValueOfE
 have f6 := asValueOfT
 have f7 := asTypeT
 have mK := asMethodKind
 have mE := asMethodElem
 have mI := asMethodImplements
 have k27 := asKindT
 have k25 := asKindE
 have e27 := asElemT
 have i25 := asImplementsE
 have n8 := asIsNilT ⟨w.heap.size, 0, none⟩ t ((w.alloc (.cells #[.pointer (some t)] 239)).alloc (.cells #[.pointer (some ⟨26, 239, none⟩), .pointer (some ⟨w.heap.size, 0, none⟩), .int .u64 150] 280)) (by simp)
 have hlt : 12 < w.heap.size := lt_of_cell hg
 have hg2 : ((w.alloc (.cells #[.pointer (some t)] 239)).alloc (.cells #[.pointer (some ⟨26, 239, none⟩), .pointer (some ⟨w.heap.size, 0, none⟩), .int .u64 150] 280)).cell? ⟨12, 0, none⟩ = some (.iface 326 (.agg #[.pointer (some ⟨26, 32, none⟩)])) := by
  rw [World.cell?_alloc_lt _ _ ⟨12, 0, none⟩ (by simp; omega), World.cell?_alloc_lt _ _ ⟨12, 0, none⟩ hlt]; exact hg
 have htl : t.block < w.heap.size := lt_of_cell ht0
 have el := asElemV ⟨w.heap.size, 0, none⟩ t (((w.alloc (.cells #[.pointer (some t)] 239)).alloc (.cells #[.pointer (some ⟨26, 239, none⟩), .pointer (some ⟨w.heap.size, 0, none⟩), .int .u64 150] 280)).alloc (.cells #[.pointer (some ⟨26, 239, none⟩), .pointer (some ⟨w.heap.size, 0, none⟩), .int .u64 150] 280)) (by rw [World.cell?_alloc_lt _ _ ⟨w.heap.size, 0, none⟩ (by simp; omega)]; simp)
 have st := asSetE t ⟨w.heap.size + 1 + 1 + 1, 0, none⟩ e old ((((w.alloc (.cells #[.pointer (some t)] 239)).alloc (.cells #[.pointer (some ⟨26, 239, none⟩), .pointer (some ⟨w.heap.size, 0, none⟩), .int .u64 150] 280)).alloc (.cells #[.pointer (some ⟨26, 239, none⟩), .pointer (some ⟨w.heap.size, 0, none⟩), .int .u64 150] 280)).alloc (.cells #[.pointer (some e)] 226))
  (by rw [World.cell?_alloc_at _ _ _ _ (by simp)]; rfl)
  (by rw [World.cell?_alloc_lt _ _ t (by simp; omega), World.cell?_alloc_lt _ _ t (by simp; omega), World.cell?_alloc_lt _ _ t (by simp; omega), World.cell?_alloc_lt _ _ t htl]; exact ht0)
  (by rw [World.frozen?_alloc_old _ _ t (by simp; omega), World.frozen?_alloc_old _ _ t (by simp; omega), World.frozen?_alloc_old _ _ t (by simp; omega), World.frozen?_alloc_old _ _ t (Nat.ne_of_lt htl)]; exact hf0)
 go_enter Tryz.func168, Tryz.ntmps168
 go_wp2
 refine wp_loop_rounds 1 ?_
 rw [rounds_succ]
 go_wp2
 go_ret
 exact ⟨rfl, rfl⟩

set_option maxHeartbeats 4000000 in
theorem as_miss (s t : Addr) (w : World) (hg0 : w.cell? ⟨12, 0, none⟩ = some errType) :
  Calls Tryz.prog 168 #[.iface 390 (.pointer (some s)), .iface 239 (.pointer (some t))] w fun ev w' => ev = .returned (.bool false) ∧ Ext w w' := by
 have hg : w.cell? ⟨12, 0, none⟩ = some (.iface 326 (.agg #[.pointer (some ⟨26, 32, none⟩)])) := hg0
 have h6 := @run_callFunc_extern Tryz.prog 214 _ (fun args => ReflectliteValue.unpack (args.getD 0 (.tuple #[]))) Tryz.func214 (by kernel_rfl) (by kernel_rfl) (by kernel_rfl) (by kernel_rfl)
 have h7 := @run_callFunc_extern Tryz.prog 215 _ (ReflectliteValue.methodAny (ReflectliteValue.valueError "reflectlite.Value.Type" 0) (fun t _ _ _ => ReflectliteType.toType t)) Tryz.func215 (by kernel_rfl) (by kernel_rfl) (by kernel_rfl) (by kernel_rfl)
 have h8 := @run_callFunc_extern Tryz.prog 216 _ (ReflectliteValue.method (ReflectliteValue.valueError "reflectlite.Value.IsNil" 0) ReflectliteValue.isNil) Tryz.func216 (by kernel_rfl) (by kernel_rfl) (by kernel_rfl) (by kernel_rfl)
 have tO := asTypeOfS
 have mA := asMethodAssignableTo
 have a25 := asAssignableS
 have f6 := asValueOfT
 have f7 := asTypeT
 have mK := asMethodKind
 have mE := asMethodElem
 have mI := asMethodImplements
 have k27 := asKindT
 have k25 := asKindE
 have e27 := asElemT
 have i25 := asImplementsE
 have nA := noAsS
 have uE := noUnwrapE
 have vE := noUnwrapsE
 have n8 := asIsNilT ⟨w.heap.size, 0, none⟩ t ((w.alloc (.cells #[.pointer (some t)] 239)).alloc (.cells #[.pointer (some ⟨26, 239, none⟩), .pointer (some ⟨w.heap.size, 0, none⟩), .int .u64 150] 280)) (by simp)
 have hlt : 12 < w.heap.size := lt_of_cell hg
 have hg2 : ((w.alloc (.cells #[.pointer (some t)] 239)).alloc (.cells #[.pointer (some ⟨26, 239, none⟩), .pointer (some ⟨w.heap.size, 0, none⟩), .int .u64 150] 280)).cell? ⟨12, 0, none⟩ = some (.iface 326 (.agg #[.pointer (some ⟨26, 32, none⟩)])) := by
  rw [World.cell?_alloc_lt _ _ ⟨12, 0, none⟩ (by simp; omega), World.cell?_alloc_lt _ _ ⟨12, 0, none⟩ hlt]; exact hg
 go_enter Tryz.func168, Tryz.ntmps168
 go_wp2
 refine wp_loop_rounds 1 ?_
 rw [rounds_succ]
 go_wp2
 go_ret
 refine ⟨rfl, ?_⟩
 repeat' (first | with_reducible exact Only.refl _ _ | apply Only.thenAlloc)
end Go.Proofs.YtnmhaipjfpongacGreatDoor

namespace Go.Proofs.YtnmhaipjfpongacGreatDoor
open Go.ChangeShapes Go.WideShapes Go.ChangeAt Go.RowKit

def errVars : List Nat := [8, 2, 0, 9, 10, 1, 3, 4, 7, 11, 6, 5]

abbrev errV (a : Addr) : Value := .iface 390 (.pointer (some a))

structure Sents (w : World) (p : Nat → Addr) : Prop where
 var : ∀ i g, errVars[i]? = some g → w.cell? ⟨g, 0, none⟩ = some (errV (p i))
 row : ∀ i, i < 12 → ∃ c t, w.heap[(p i).block]? = some (.cells c t (0, 0))
 apart : ∀ i j, i < 12 → j < 12 → p i = p j → i = j
 typ : w.cell? ⟨12, 0, none⟩ = some errType

theorem Sents.ext {w w' : World} {p : Nat → Addr} (h : Sents w p) (ho : Ext w w') : Sents w' p :=
 ⟨fun i g hg => ho.cellOf (h.var i g hg) (fun h => h), fun i hi => by obtain ⟨c, t, hc⟩ := h.row i hi; exact ⟨c, t, ho.heapOf hc (fun h => h)⟩, h.apart, ho.cellOf h.typ (fun h => h)⟩

structure Errs (w : World) (p : Nat → Addr) (L : List Nat) : Prop where
 var : ∀ i g, i ∈ L → errVars[i]? = some g → w.cell? ⟨g, 0, none⟩ = some (errV (p i))
theorem Errs.ext {w w' : World} {p : Nat → Addr} {L : List Nat} (h : Errs w p L) (ho : Ext w w') : Errs w' p L := ⟨fun i g hi hg => ho.cellOf (h.var i g hi hg) (fun h => h)⟩
theorem Errs.sub {w : World} {p : Nat → Addr} {L K : List Nat} (h : Errs w p L) (hk : ∀ i ∈ K, i ∈ L) : Errs w p K := ⟨fun i g hi hg => h.var i g (hk i hi) hg⟩
theorem Sents.errs {w : World} {p : Nat → Addr} (h : Sents w p) (L : List Nat) : Errs w p L := ⟨fun i g _ hg => h.var i g hg⟩

def CodeIs (w : World) (c at_ : Int) (e : Ending) (w' : World) : Prop := e = .returned (.tuple #[I c, I at_]) ∧ Ext w w'

theorem code_nil (w : World) : Calls Tryz.prog 96 #[.nilIface] w (CodeIs w 0 (-1)) := by
 go_enter Tryz.func96, Tryz.ntmps96
 go_wp2
 go_ret2
 exact ⟨rfl, Only.refl _ _⟩

abbrev errCells (p : Nat → Addr) : Array Value := #[errV (p 0), errV (p 1), errV (p 2), errV (p 3), errV (p 4), errV (p 5), errV (p 6), errV (p 7), errV (p 8), errV (p 9), errV (p 10), errV (p 11)]

theorem errCells_at (p : Nat → Addr) (k : Nat) (hk : k < 12) : (errCells p)[k]? = some (errV (p k)) := by
 have : k = 0 ∨ k = 1 ∨ k = 2 ∨ k = 3 ∨ k = 4 ∨ k = 5 ∨ k = 6 ∨ k = 7 ∨ k = 8 ∨ k = 9 ∨ k = 10 ∨ k = 11 := by omega
 rcases this with rfl | rfl | rfl | rfl | rfl | rfl | rfl | rfl | rfl | rfl | rfl | rfl <;> rfl

set_option maxHeartbeats 2000000 in
theorem code_err (w : World) (p : Nat → Addr) (hs : Sents w p) (a : Addr) (i0 : Nat) (hi : i0 ≤ 12) (heq : i0 < 12 → p i0 = a) (hne : ∀ j, j < 12 → j ≠ i0 → p j ≠ a) (ca : Array Value) (ta : TypeId) (ha : w.heap[a.block]? = some (.cells ca ta (0, 0))) :
  Calls Tryz.prog 96 #[errV a] w (CodeIs w (if i0 < 12 then (i0 : Int) + 1 else -1) (-1)) := by
 obtain ⟨c, hc⟩ : ∃ c : Int, Hid (c = if i0 < 12 then (i0 : Int) + 1 else -1) := ⟨_, Lib.hid rfl⟩
 rw [← hc.out]
 have HS := Lib.hid hs
 have HA := Lib.hid ha
 have HE := Lib.hid heq
 have HN := Lib.hid hne
 clear hs ha heq hne
 go_enter Tryz.func96, Tryz.ntmps96
 go_wp2_with fail
 refine (as_miss a ⟨w.heap.size, 0, none⟩ _ ((Only.alloc (fun _ => False) w _).cellOf HS.out.typ (fun h => h))).mono ?_
 rintro e w2 ⟨rfl, ho⟩
 have h2 : Ext w w2 := (Only.alloc (fun _ => False) w _).ext ho
 have s2 := HS.out.ext h2
 have q0 := s2.var 0 _ rfl
 have q1 := s2.var 1 _ rfl
 have q2 := s2.var 2 _ rfl
 have q3 := s2.var 3 _ rfl
 have q4 := s2.var 4 _ rfl
 have q5 := s2.var 5 _ rfl
 have q6 := s2.var 6 _ rfl
 have q7 := s2.var 7 _ rfl
 have q8 := s2.var 8 _ rfl
 have q9 := s2.var 9 _ rfl
 have q10 := s2.var 10 _ rfl
 have q11 := s2.var 11 _ rfl
 have S2 := Lib.hid s2
 have H2 := Lib.hid h2
 clear s2 h2 ho
 go_wp2_with fail
 have hcell : ∀ k, k < 12 → (w2.alloc (.cells (errCells p) 32)).cell? ⟨w2.heap.size, k, none⟩ = some (errV (p k)) := fun k hk => (cell_of_heap (MapKept.heap_alloc w2 _).1 k).trans (errCells_at p k hk)
 have hrow : ∀ k, k < 12 → ∃ c t, (w2.alloc (.cells (errCells p) 32)).heap[(p k).block]? = some (.cells c t (0, 0)) := fun k hk => by
  obtain ⟨c, t, h⟩ := S2.out.row k hk
  exact ⟨c, t, (Only.alloc (fun _ => False) w2 _).heapOf h (fun h => h)⟩
 have harow : (w2.alloc (.cells (errCells p) 32)).heap[a.block]? = some (.cells ca ta (0, 0)) := (H2.out.thenAlloc _).heapOf HA.out (fun h => h)
 have hext : Ext w (w2.alloc (.cells (errCells p) 32)) := H2.out.thenAlloc _
 generalize (w2.alloc (.cells (errCells p) 32)) = w3 at hcell hrow harow hext ⊢
 have HC := Lib.hid hcell
 have HR := Lib.hid hrow
 have HB := Lib.hid harow
 have HX := Lib.hid hext
 clear hcell hrow harow hext q0 q1 q2 q3 q4 q5 q6 q7 q8 q9 q10 q11
 generalize w2.heap.size = blk at HC ⊢
 go_loop [3, 30] (fun t i => t = .int .i64 (-1) ∧ ∃ k : Nat, k ≤ i0 ∧ i = .int .i64 k) (fun _ i => 13 - (intOf i).toNat)
 case atStart => exact ⟨rfl, 0, Nat.zero_le _, rfl⟩
 case round =>
  obtain ⟨rfl, k, hk, rfl⟩ := hrel
  by_cases hlt : k < 12
  ·have hkc := HC.out k hlt
   have hltz : (k : Int) < 12 := by omega
   by_cases hki : k = i0
   ·subst hki
    have hp := HE.out hlt
    rw [hp] at hkc
    clear hp
    go_wp2_with (go_at_call 169; refine (is_same a _).mono ?_; rintro e w' ⟨rfl, rfl⟩)
    go_ret2
    refine ⟨?_, HX.out⟩
    rw [hc.out, if_pos hlt]
    rfl
   ·obtain ⟨c1, t1, hr1⟩ := HR.out k hlt
    have hpne := HN.out k hlt hki
    have hkl : k < i0 := by omega
    have hio := is_other a (p k) ca c1 ta t1 w3 (Ne.symm hpne) HB.out hr1
    have HI := Lib.hid hio
    clear hr1 hpne hio hki
    go_wp2_with (go_at_call 169; refine HI.out.mono ?_; rintro e w' ⟨rfl, rfl⟩)
    go_round
    case rel => exact ⟨rfl, k + 1, by omega, by go_num⟩
    case measure => simp [intOf]; omega
  ·have hltz : ¬ ((k : Int) < 12) := by omega
   have hk12 : k = 12 := by omega
   have hi12 : ¬ i0 < 12 := by omega
   go_wp2_with fail
   go_ret2
   refine ⟨?_, HX.out⟩
   rw [hc.out, if_neg hi12]
   rfl
theorem cell_set_same (w : World) (b : Nat) (v : Value) {old : Value} {a : Addr} (h : w.cell? a = some old) (ha : a = ⟨b, 0, none⟩) : (w.setCell a v).cell? ⟨b, 0, none⟩ = some v := by
 subst ha
 unfold World.cell? at h ⊢
 simp only [World.setCell, Array.getElem?_modify, if_true]
 cases hh : w.heap[b]? with
 | none => rw [hh] at h; cases h
 | some o =>
  rw [hh] at h
  cases o with
  | cells c e fr =>
   simp at h
   have hl : 0 < c.size := (Array.getElem?_eq_some_iff.1 h).1
   simp [hl]
  | _ => cases h

set_option maxHeartbeats 2000000 in
theorem code_fault (w : World) (p : Nat → Addr) (hs : Sents w p) (pb i0 : Nat) (at_ : Int) (hi : i0 < 12) (ha0 : w.cell? ⟨pb, 0, none⟩ = some (I at_)) (ha1 : w.cell? ⟨pb, 1, none⟩ = some (errV (p i0))) :
  Calls Tryz.prog 96 #[.iface 226 (.pointer (some ⟨pb, 0, none⟩))] w (CodeIs w ((i0 : Int) + 1) at_) := by
 have HS := Lib.hid hs
 have HA0 := Lib.hid ha0
 have HA1 := Lib.hid ha1
 clear hs ha0 ha1
 go_enter Tryz.func96, Tryz.ntmps96
 go_wp2_with fail
 refine (as_hit ⟨pb, 0, none⟩ ⟨w.heap.size, 0, none⟩ (.pointer none) _ ((Only.alloc (fun _ => False) w _).cellOf HS.out.typ (fun h => h)) (by simp) (by simp)).mono ?_
 rintro e w2 ⟨rfl, hw2⟩
 have hb2 : w2.cell? ⟨w.heap.size, 0, none⟩ = some (.pointer (some ⟨pb, 0, none⟩)) := by
  rw [hw2]
  refine cell_set_same _ _ _ (Only.cellOf (p := fun _ => False) ?_ ((cell_of_heap (MapKept.heap_alloc w (.cells #[.pointer none] 226)).1 0).trans rfl) (fun h => h)) rfl
  repeat' (first | with_reducible exact Only.refl _ _ | apply Only.thenAlloc)
 have h2 : Ext w w2 := by
  rw [hw2]
  refine Only.thenSet ?_ _ (.inr (Nat.le_refl _))
  repeat' (first | with_reducible exact Only.refl _ _ | apply Only.thenAlloc)
 clear hw2
 have s2 := HS.out.ext h2
 have c0 := h2.cellOf HA0.out (fun h => h)
 have q0 := s2.var 0 _ rfl
 have q1 := s2.var 1 _ rfl
 have q2 := s2.var 2 _ rfl
 have q3 := s2.var 3 _ rfl
 have q4 := s2.var 4 _ rfl
 have q5 := s2.var 5 _ rfl
 have q6 := s2.var 6 _ rfl
 have q7 := s2.var 7 _ rfl
 have q8 := s2.var 8 _ rfl
 have q9 := s2.var 9 _ rfl
 have q10 := s2.var 10 _ rfl
 have q11 := s2.var 11 _ rfl
 have S2 := Lib.hid s2
 have H2 := Lib.hid h2
 clear s2 h2
 go_wp2_with fail
 have hcell : ∀ k, k < 12 → (w2.alloc (.cells (errCells p) 32)).cell? ⟨w2.heap.size, k, none⟩ = some (errV (p k)) := fun k hk => (cell_of_heap (MapKept.heap_alloc w2 _).1 k).trans (errCells_at p k hk)
 have hrow : ∀ k, k < 12 → ∃ c t, (w2.alloc (.cells (errCells p) 32)).heap[(p k).block]? = some (.cells c t (0, 0)) := fun k hk => by
  obtain ⟨c, t, h⟩ := S2.out.row k hk
  exact ⟨c, t, (Only.alloc (fun _ => False) w2 _).heapOf h (fun h => h)⟩
 have h1c : (w2.alloc (.cells (errCells p) 32)).cell? ⟨pb, 1, none⟩ = some (errV (p i0)) := (H2.out.thenAlloc _).cellOf HA1.out (fun h => h)
 have hext : Ext w (w2.alloc (.cells (errCells p) 32)) := H2.out.thenAlloc _
 generalize (w2.alloc (.cells (errCells p) 32)) = w3 at hcell hrow h1c hext ⊢
 have HC := Lib.hid hcell
 have HR := Lib.hid hrow
 have HB := Lib.hid h1c
 have HX := Lib.hid hext
 clear hcell hrow h1c hext c0 q0 q1 q2 q3 q4 q5 q6 q7 q8 q9 q10 q11
 generalize w2.heap.size = blk at HC ⊢
 go_loop [3, 30] (fun t i => t = .int .i64 at_ ∧ ∃ k : Nat, k ≤ i0 ∧ i = .int .i64 k) (fun _ i => 13 - (intOf i).toNat)
 case atStart => exact ⟨rfl, 0, Nat.zero_le _, rfl⟩
 case round =>
  obtain ⟨rfl, k, hk, rfl⟩ := hrel
  by_cases hlt : k < 12
  ·have hkc := HC.out k hlt
   have hltz : (k : Int) < 12 := by omega
   by_cases hki : k = i0
   ·subst hki
    have hio := is_fault_same pb (p k) w3 HB.out
    have HI := Lib.hid hio
    clear hio
    go_wp2_with (go_at_call 169; refine HI.out.mono ?_; rintro e w' ⟨rfl, rfl⟩)
    go_ret2
    exact ⟨rfl, HX.out⟩
   ·obtain ⟨c1, t1, hr1⟩ := HR.out k hlt
    obtain ⟨c2, t2, hr2⟩ := HR.out i0 hi
    have hkl : k < i0 := by omega
    have hpne : p i0 ≠ p k := fun e => hki (HS.out.apart k i0 hlt hi e.symm)
    have hio := is_fault_other pb (p k) (p i0) c2 c1 t2 t1 w3 HB.out hpne hr2 hr1
    have HI := Lib.hid hio
    clear hr1 hr2 hpne hio hki
    go_wp2_with (go_at_call 169; refine HI.out.mono ?_; rintro e w' ⟨rfl, rfl⟩)
    go_round
    case rel => exact ⟨rfl, k + 1, by omega, by go_num⟩
    case measure => simp [intOf]; omega
  ·omega

end Go.Proofs.YtnmhaipjfpongacGreatDoor

namespace Go.Proofs.YtnmhaipjfpongacGreatDoor
open Go.ChangeShapes Go.WideShapes Go.ChangeAt Go.RowKit
open Go.MapKept (heap_alloc)
def RdC (w : World) (v : Value) (l : List B) : Prop :=
 ∃ a cap, v = .slice a l.length cap ∧ l.length ≤ cap ∧ cap ≤ 1000000 ∧ (l ≠ [] → ∃ b off, a = some ⟨b, off, none⟩ ∧ ∀ i x, l[i]? = some x → w.cell? ⟨b, off + i, none⟩ = some (S x))

theorem RdC.ext {w w' : World} {v : Value} {l : List B} (h : RdC w v l) (ho : Ext w w') : RdC w' v l := by
 obtain ⟨a, cap, rfl, h1, h2, h3⟩ := h
 refine ⟨a, cap, rfl, h1, h2, fun hl => ?_⟩
 obtain ⟨b, off, rfl, hc⟩ := h3 hl
 exact ⟨b, off, rfl, fun i x hx => ho.cellOf (hc i x hx) (fun h => h)⟩

theorem eqNil_some (a : Addr) (n c : Nat) (w : World) : (binOp .eql 53 (.slice (some a) n c) (.slice none 0 0)).run Tryz.prog w = .ok (.bool false) w := by kernel_rfl
theorem eqNil_none (w : World) : (binOp .eql 53 (.slice none 0 0) (.slice none 0 0)).run Tryz.prog w = .ok (.bool true) w := by kernel_rfl

attribute [local go_sem] eqNil_some eqNil_none

set_option maxRecDepth 100000 in
theorem check_any (w : World) (s : B) (a : Addr) (hs : s.length ≤ 1000000) (hm : HasMax w) (he : w.cell? ⟨9, 0, none⟩ = some (errV a)) :
  Calls Tryz.prog 112 #[S s] w fun e w' => e = .returned (if pathOk s then .nilIface else errV a) ∧ Ext w w' := by
 have HP := Lib.hid (parts_any w false s hs hm)
 have HE := Lib.hid he
 clear he hm hs
 obtain ⟨r, hr⟩ : ∃ r, r = pathOk s := ⟨_, rfl⟩
 rw [← hr]
 have HR := Lib.hid hr
 clear hr
 go_enter Tryz.func112, Tryz.ntmps112
 go_wp2_with fail
 refine HP.out.mono ?_
 rintro e w' ⟨ho, ⟨hok, b, rfl, hl⟩ | ⟨hok, rfl⟩⟩
 ·have HO := Lib.hid ho
  have hr : r = true := HR.out.trans hok
  subst hr
  clear ho hl hok
  go_wp2
  go_ret
  exact ⟨rfl, HO.out⟩
 ·have HO := Lib.hid ho
  have hr : r = false := HR.out.trans hok
  subst hr
  have he := ho.cellOf HE.out (fun h => h)
  clear ho hok
  go_wp2
  go_ret
  exact ⟨rfl, HO.out⟩

end Go.Proofs.YtnmhaipjfpongacGreatDoor

namespace Go.Proofs.YtnmhaipjfpongacGreatDoor
open Go.ChangeShapes Go.WideShapes Go.ChangeAt Go.RowKit

theorem rowRd {W : World} {base : Nat} {g cap n : Nat} {l : List B} (h : W.ownsRow base 9 1 (.slice (some ⟨g, 0, none⟩) n cap) n (l.map S)) : ∀ i x, l[i]? = some x → W.cell? ⟨g, i, none⟩ = some (S x) := fun i x hx => by
 rcases h.2 with ⟨h2, _⟩ | ⟨g', cap', cur, hv, _, hh, _, _, hs, ht⟩
 ·cases h2
 ·cases hv
  have hn : l.length = n := by simpa using h.1
  have hi : i < l.length := (List.getElem?_eq_some_iff.1 hx).1
  have hcell : cur[i]? = (cur.toList.take (n * 1))[i]? := by rw [List.getElem?_take_of_lt (by omega)]; simp
  rw [ht, List.getElem?_map, hx] at hcell
  rw [cell_of_heap hh]
  simpa using hcell

def RefPartsIs (w : World) (st : Bool) (s : B) (e : Ending) (w' : World) : Prop :=
 Ext w w' ∧ ((partsOk st (cut s) = true ∧ ∃ g cap, e = .returned (.slice (some ⟨g, 0, none⟩) (cut s).length cap) ∧ ∀ i x, (cut s)[i]? = some x → w'.cell? ⟨g, i, none⟩ = some (S x)) ∨ (partsOk st (cut s) = false ∧ e = .returned (.slice none 0 0)))

set_option maxRecDepth 100000 in
set_option maxHeartbeats 1000000 in
theorem refParts_any (w : World) (st : Bool) (s : B) (hs : s.length ≤ 999999) : Calls Tryz.prog 174 #[S s, .bool st] w (RefPartsIs w st s) := by
 have HC := Lib.hid (refCut_any w s hs)
 have hcl := cut_len_le s
 obtain ⟨l, hl⟩ : ∃ l, l = cut s := ⟨_, rfl⟩
 unfold RefPartsIs
 rw [← hl] at hcl HC ⊢
 have hll : l.length ≤ 1000000 := by omega
 clear hl hs hcl
 by_cases h5 : l.length ≤ 5
 ·have h5' : ¬ ((5 : Int) < (l.length : Int)) := by omega
  go_enter Tryz.func174, Tryz.ntmps174
  go_wp2_with fail
  refine HC.out.mono ?_
  rintro e w1 ⟨g, cap, rfl, hrow, ho⟩
  have HO := Lib.hid ho
  have HD := Lib.hid (rowRd hrow)
  clear ho hrow
  go_wp2_with fail
  go_loop [6] (fun i => ∃ j : Nat, j ≤ l.length ∧ i = .int .i64 j ∧ Hid (∀ k x, k < j → l[k]? = some x → nameOk st x = true)) (fun i => l.length - (intOf i).toNat)
  case atStart => exact ⟨0, Nat.zero_le _, rfl, Lib.hid (fun k x h => absurd h (Nat.not_lt_zero _))⟩
  case round =>
   obtain ⟨j, hj, rfl, HB⟩ := hrel
   by_cases hlt : j < l.length
   ·have hltz : (j : Int) < (l.length : Int) := by omega
    obtain ⟨x, hx⟩ : ∃ x, l[j]? = some x := ⟨_, List.getElem?_eq_getElem hlt⟩
    have c1 := HD.out j x hx
    have HXX := Lib.hid hx
    have hn := isName_any w1 st x
    clear hx
    cases hq : nameOk st x with
    | true =>
     rw [hq] at hn
     have HN := Lib.hid hn
     have HQ := Lib.hid hq
     clear hn hq
     go_wp2_with fail
     refine HN.out.mono ?_
     rintro e w' ⟨rfl, rfl⟩
     go_wp2_with fail
     go_round
     case rel => exact ⟨j + 1, by omega, by go_num, Lib.hid (fun k y hk hy => by
      rcases Nat.lt_succ_iff_lt_or_eq.1 hk with h' | rfl
      ·exact HB.out k y h' hy
      ·rw [HXX.out] at hy; cases hy; exact HQ.out)⟩
     case measure => simp [intOf]; omega
    | false =>
     rw [hq] at hn
     have HN := Lib.hid hn
     have hbad : partsOk st l = false := by
      rw [Bool.eq_false_iff]
      intro h
      have := partsOk_all h x (List.mem_of_getElem? HXX.out)
      rw [hq] at this; cases this
     have HBD := Lib.hid hbad
     clear hn hq hbad
     go_wp2_with fail
     refine HN.out.mono ?_
     rintro e w' ⟨rfl, rfl⟩
     go_wp2_with fail
     go_ret
     exact ⟨HO.out, .inr ⟨HBD.out, rfl⟩⟩
   ·have hltz : ¬ ((j : Int) < (l.length : Int)) := by omega
    have hok : partsOk st l = true := partsOk_mk h5 fun x hx => by
     obtain ⟨k, hk⟩ := List.getElem?_of_mem hx
     exact HB.out k x (by have := (List.getElem?_eq_some_iff.1 hk).1; omega) hk
    have HOK := Lib.hid hok
    clear hok
    go_wp2_with fail
    go_ret
    exact ⟨HO.out, .inl ⟨HOK.out, g, ⟨cap, rfl⟩, HD.out⟩⟩
 ·have h5' : (5 : Int) < (l.length : Int) := by omega
  have hbad : partsOk st l = false := by
   rw [Bool.eq_false_iff]
   intro h
   exact h5 (partsOk_len h)
  have HBD := Lib.hid hbad
  clear hbad h5
  go_enter Tryz.func174, Tryz.ntmps174
  go_wp2_with fail
  refine HC.out.mono ?_
  rintro e w1 ⟨g, cap, rfl, hrow, ho⟩
  have HO := Lib.hid ho
  clear ho hrow
  go_wp2_with fail
  go_ret
  exact ⟨HO.out, .inr ⟨HBD.out, rfl⟩⟩

set_option maxRecDepth 100000 in
theorem isPath_any (w : World) (s : B) (hs : s.length ≤ 999999) : Calls Tryz.prog 104 #[S s] w fun e w' => e = .returned (.bool (pathOk s)) ∧ Ext w w' := by
 have HP := Lib.hid (refParts_any w false s hs)
 obtain ⟨r, hr⟩ : ∃ r, r = pathOk s := ⟨_, rfl⟩
 rw [← hr]
 have HR := Lib.hid hr
 obtain ⟨m, hm⟩ : ∃ m, (cut s).length = m + 1 := ⟨(cut s).length - 1, by have := cut_pos s; omega⟩
 have HM := Lib.hid hm
 have h0 : (0 : Int) < (m : Int) + 1 := by omega
 clear hr hm
 go_enter Tryz.func104, Tryz.ntmps104
 go_wp2_with fail
 refine HP.out.mono ?_
 rintro e w' ⟨ho, ⟨hok, g, cap, rfl, _⟩ | ⟨hok, rfl⟩⟩
 ·have HO := Lib.hid ho
  have hr : r = true := HR.out.trans hok
  subst hr
  rw [HM.out]
  clear ho hok
  go_wp2_with fail
  go_ret
  exact ⟨rfl, HO.out⟩
 ·have HO := Lib.hid ho
  have hr : r = false := HR.out.trans hok
  subst hr
  clear ho hok
  go_wp2_with fail
  go_ret
  exact ⟨rfl, HO.out⟩

end Go.Proofs.YtnmhaipjfpongacGreatDoor

namespace Go.Proofs.YtnmhaipjfpongacGreatDoor
open Go.ChangeShapes Go.WideShapes Go.ChangeAt Go.RowKit

def errNames : List String := ["kilnyard/api.ErrText", "kilnyard/api.ErrBound", "kilnyard/api.ErrShape", "kilnyard/api.ErrName", "kilnyard/api.ErrKind", "kilnyard/api.ErrNone", "kilnyard/api.ErrExist", "kilnyard/api.ErrFull", "kilnyard/api.ErrCycle", "kilnyard/api.ErrLong", "kilnyard/api.ErrTurn", "kilnyard/api.ErrDone"]
abbrev sent (s : B) : DataW Unit := .iface "*errors.errorString" (.ptr (.agg [.lit (.string s)]))
def isSent : DataW Unit → Bool
 | .iface n (.ptr (.agg [.lit (.string _)])) => n == "*errors.errorString"
 | _ => false

theorem isSent_eq {d : DataW Unit} (h : isSent d = true) : ∃ s, d = sent s := by
 unfold isSent at h
 split at h
 ·rename_i n s
  obtain rfl : n = "*errors.errorString" := by simpa using h
  exact ⟨s, rfl⟩
 ·cases h

theorem err_star : "*" ++ "errors.errorString" = "*errors.errorString" := by decide
theorem err_row (u : TypeId) (h : Tryz.prog.typeName? 3 u = some "*errors.errorString") : u = 390 :=
 typeName_ptr_named (nm := "errors.errorString") (by rw [err_star]; kernel_rfl) (by kernel_rfl) (by decide) u (by rw [err_star]; exact h)
theorem err_cells : Tryz.prog.cellsOf 392 = 1 := by kernel_rfl
theorem str_cells : Tryz.prog.cellsOf 9 = 1 := by kernel_rfl

theorem err_global {n : String} (h : n ∈ errNames) : ∃ g, Tryz.prog.globalNamed n = some g ∧ (Tryz.prog.globals[g]?).map (·.type) = some 32 := by
 have hall : (errNames.all fun n => match Tryz.prog.globalNamed n with | some g => (Tryz.prog.globals[g]?).map (·.type) == some 32 | none => false) = true := by kernel_rfl
 have := List.all_eq_true.1 hall n h
 revert this
 cases hg : Tryz.prog.globalNamed n with
 | none => intro h; cases h
 | some g => intro h; exact ⟨g, rfl, by simpa using h⟩

def Held (W : World) (n : String) (a : Addr) : Prop := W.var? Tryz.prog n = some #[errV a]

theorem Held.same {W : World} {n : String} {a b : Addr} (h : Held W n a) (h' : Held W n b) : a = b := by
 have := h.symm.trans h'
 simpa using this

set_option maxRecDepth 100000 in
theorem laid_held {W : World} : ∀ {l : List (String × DataW Unit)} {ps : List MemPlace}, DataW.LaidVars Tryz.prog W l ps → ps.Nodup →
  (∀ b off, MemPlace.cell b off ∈ ps → ∀ u v, W.cell? ⟨b, off, none⟩ = some (.iface u v) → Value.okWide Tryz.prog W .any 0 u v) →
  (∀ x ∈ l, x.1 ∈ errNames → ∃ s, x.2 = sent s) →
  (∀ x ∈ l, x.1 ∈ errNames → ∃ a, Held W x.1 a ∧ MemPlace.cell a.block a.off ∈ ps) ∧
  l.Pairwise (fun x y => ∀ a b, x.1 ∈ errNames → y.1 ∈ errNames → Held W x.1 a → Held W y.1 b → a ≠ b)
 | [], _, _, _, _, _ => ⟨fun x hx => (by cases hx), List.Pairwise.nil⟩
 | (n, d) :: r, ps, hv, hnd, hok, hs => by
  obtain ⟨g, t, cs, f, p, q, hg, ht, hvar, hd, hr, rfl⟩ := hv
  have hq : q.Nodup := (List.nodup_append.1 hnd).2.1
  obtain ⟨i1, i2⟩ := laid_held hr hq (fun b off hm => hok b off (List.mem_append_right _ hm)) (fun x hx => hs x (List.mem_cons_of_mem _ hx))
  have key : n ∈ errNames → ∃ a, Held W n a ∧ MemPlace.cell a.block a.off ∈ p := fun hn => by
   obtain ⟨s, hs0⟩ := hs (n, d) List.mem_cons_self hn
   have hs1 : d = sent s := hs0
   subst hs1
   obtain ⟨g', hg', ht'⟩ := err_global hn
   obtain rfl := Option.some.inj (hg.symm.trans hg')
   obtain rfl := Option.some.inj (ht.symm.trans ht')
   obtain ⟨lc⟩ := cs
   have ok0 : ∀ u v, lc = [.iface u v] → Value.okWide Tryz.prog W .any 0 u v := fun u v e => by
    subst e
    exact hok g 0 (by simp [MemPlace.row]) u v (by simpa using World.var?_cell hg hvar 0)
   obtain ⟨a, s', rfl, _, _, _, rfl⟩ := errorString_of_trod Tryz.underlying32 err_row Tryz.underlying390 Tryz.underlying392 rfl rfl Tryz.underlying9 err_cells str_cells hd ok0
   exact ⟨a, hvar, by simp [MemPlace.row]⟩
  refine ⟨fun x hx hn => ?_, List.Pairwise.cons (fun y hy a b hx hny ha hb => ?_) i2⟩
  ·rcases List.mem_cons.1 hx with rfl | hx
   ·obtain ⟨a, ha, hm⟩ := key hn
    exact ⟨a, ha, List.mem_append_left _ (List.mem_append_right _ hm)⟩
   ·obtain ⟨a, ha, hm⟩ := i1 x hx hn
    exact ⟨a, ha, List.mem_append_right _ hm⟩
  ·obtain ⟨a', ha', hm⟩ := key hx
   obtain ⟨b', hb', hm'⟩ := i1 y hy hny
   obtain rfl := ha.same ha'
   obtain rfl := hb.same hb'
   rintro rfl
   exact (List.nodup_append.1 hnd).2.2 _ (List.mem_append_right _ hm) _ hm' rfl

set_option maxRecDepth 100000 in
theorem held_of_laid {W : World} {l : List (String × DataW Unit)} (h : laidMet Tryz.prog l W) (hs : (l.all fun x => !(errNames.contains x.1) || isSent x.2) = true) :
  (∀ n ∈ errNames, (l.map (·.1)).contains n = true → ∃ a c t, Held W n a ∧ W.heap[a.block]? = some (.cells c t (0, 0))) ∧
  (∀ n m a, (l.map (·.1)).contains n = true → (l.map (·.1)).contains m = true → n ∈ errNames → m ∈ errNames → Held W n a → Held W m a → n = m) := by
 obtain ⟨ps, hv, hnd, hrows⟩ := h
 have hs' : ∀ x ∈ l, x.1 ∈ errNames → ∃ s, x.2 = sent s := fun x hx hn => by
  have := List.all_eq_true.1 hs x hx
  refine isSent_eq ?_
  simpa [hn] using this
 obtain ⟨h1, h2⟩ := laid_held hv hnd (fun b off hm => (hrows b off hm).2) hs'
 refine ⟨fun n hn hc => ?_, fun n m a hc hc' hn hm ha hb => ?_⟩
 ·obtain ⟨x, hx, rfl⟩ : ∃ x ∈ l, x.1 = n := by simpa using hc
  obtain ⟨a, ha, hm⟩ := h1 x hx hn
  obtain ⟨c, t, hct⟩ := (hrows a.block a.off hm).1
  exact ⟨a, c, t, ha, hct⟩
 ·obtain ⟨x, hx, rfl⟩ : ∃ x ∈ l, x.1 = n := by simpa using hc
  obtain ⟨y, hy, rfl⟩ : ∃ x ∈ l, x.1 = m := by simpa using hc'
  by_cases hxy : x.1 = y.1
  ·exact hxy
  obtain ⟨i, hi, rfl⟩ := List.mem_iff_getElem.1 hx
  obtain ⟨j, hj, rfl⟩ := List.mem_iff_getElem.1 hy
  rcases Nat.lt_trichotomy i j with h | h | h
  ·exact absurd rfl (List.pairwise_iff_getElem.1 h2 i j hi hj h a a hn hm ha hb)
  ·subst h; rfl
  ·exact absurd rfl (List.pairwise_iff_getElem.1 h2 j i hj hi h a a hm hn hb ha)

theorem type_of_handles {W : World} {hs : List (String × DataW Unit)} (h : handlesMet Tryz.prog hs W) (hm : ("errors.errorType", (.iface "internal/reflectlite.rtype" (.agg [.ptr (.lit (.string [101, 114, 114, 111, 114]))]) : DataW Unit)) ∈ hs) : W.cell? ⟨12, 0, none⟩ = some errType := by
 obtain ⟨name, u, ty, e1, e2, e3, e4, e5⟩ := h _ hm
 have en : name = [101, 114, 114, 111, 114] := (Option.some.inj e1).symm
 subst en
 have rt : (Tryz.prog.cutTypes.find? (·.1 == "internal/reflectlite.rtype")).map (·.2) = some 326 := by kernel_rfl
 have oneRow : ((List.range 429).filter fun t => Tryz.prog.rowNamed t [101, 114, 114, 111, 114]) = [32] := by kernel_rfl
 have size : Tryz.prog.types.size = 429 := by kernel_rfl
 have et : Tryz.prog.globalNamed "errors.errorType" = some 12 := by kernel_rfl
 obtain rfl := Option.some.inj (rt.symm.trans e2)
 have hm : ty ∈ (List.range 429).filter fun t => Tryz.prog.rowNamed t [101, 114, 114, 111, 114] := List.mem_filter.2 ⟨List.mem_range.2 (by rw [← size]; exact e3), e4⟩
 rw [oneRow] at hm
 obtain rfl := List.mem_singleton.1 hm
 have hh : typeHandle Tryz.prog 32 = .pointer (some ⟨26, 32, none⟩) := by kernel_rfl
 rw [hh] at e5
 exact (World.var?_cell et e5 0).trans rfl

theorem sents_of {W : World} {l hs : List (String × DataW Unit)} (h : laidMet Tryz.prog l W) (hh : handlesMet Tryz.prog hs W)
  (c1 : (l.all fun x => !(errNames.contains x.1) || isSent x.2) = true) (c2 : (errNames.all fun n => (l.map (·.1)).contains n) = true)
  (c3 : ("errors.errorType", (.iface "internal/reflectlite.rtype" (.agg [.ptr (.lit (.string [101, 114, 114, 111, 114]))]) : DataW Unit)) ∈ hs) : ∃ p, Sents W p := by
 obtain ⟨h1, h2⟩ := held_of_laid h c1
 have hin : ∀ n ∈ errNames, (l.map (·.1)).contains n = true := fun n hn => List.all_eq_true.1 c2 n hn
 have key : ∀ i : Nat, ∃ a : Addr, ∀ n, errNames[i]? = some n → ∃ c t, Held W n a ∧ W.heap[a.block]? = some (.cells c t (0, 0)) := fun i => by
  cases hi : errNames[i]? with
  | none => exact ⟨⟨0, 0, none⟩, fun n h => by cases h⟩
  | some n =>
   obtain ⟨a, c, t, h3⟩ := h1 n (List.mem_of_getElem? hi) (hin n (List.mem_of_getElem? hi))
   exact ⟨a, fun m hm => by cases hm; exact ⟨c, t, h3⟩⟩
 have hvars : errVars.map some = errNames.map Tryz.prog.globalNamed := by kernel_rfl
 have hlen : errNames.length = 12 := by decide
 have hnd : errNames.Nodup := by decide
 have at_ : ∀ i, i < 12 → ∃ n, errNames[i]? = some n := fun i hi => ⟨_, List.getElem?_eq_getElem (by omega)⟩
 refine ⟨fun i => Classical.choose (key i), fun i g hg => ?_, fun i hi => ?_, fun i j hi hj he => ?_, type_of_handles hh c3⟩
 ·have hg' : (errNames.map Tryz.prog.globalNamed)[i]? = some (some g) := by rw [← hvars, List.getElem?_map, hg]; rfl
  rw [List.getElem?_map] at hg'
  obtain ⟨n, hn, hgn⟩ := Option.map_eq_some_iff.1 hg'
  obtain ⟨c, t, hd, _⟩ := Classical.choose_spec (key i) n hn
  simpa using World.var?_cell hgn hd 0
 ·obtain ⟨n, hn⟩ := at_ i hi
  obtain ⟨c, t, _, hr⟩ := Classical.choose_spec (key i) n hn
  exact ⟨c, t, hr⟩
 ·obtain ⟨n, hn⟩ := at_ i hi
  obtain ⟨m, hm⟩ := at_ j hj
  obtain ⟨_, _, hd, _⟩ := Classical.choose_spec (key i) n hn
  obtain ⟨_, _, hd', _⟩ := Classical.choose_spec (key j) m hm
  have he' : Classical.choose (key i) = Classical.choose (key j) := he
  rw [he'] at hd
  have hnm := h2 n m _ (hin n (List.mem_of_getElem? hn)) (hin m (List.mem_of_getElem? hm)) (List.mem_of_getElem? hn) (List.mem_of_getElem? hm) hd hd'
  subst hnm
  have := (List.getElem?_inj (by omega) hnd).1 (hn.trans hm.symm)
  exact this
end Go.Proofs.YtnmhaipjfpongacGreatDoor

namespace Go.Proofs.YtnmhaipjfpongacGreatDoor
open Go.ChangeShapes Go.WideShapes Go.ChangeAt Go.RowKit

set_option maxRecDepth 100000 in
theorem laid_one {W : World} {n : String} {d : DataW Unit} {g : Nat} (hg : Tryz.prog.globalNamed n = some g) (ht : (Tryz.prog.globals[g]?).map (·.type) = some 32) (hd0 : isSent d = true) : ∀ {l : List (String × DataW Unit)} {ps : List MemPlace}, DataW.LaidVars Tryz.prog W l ps →
  (∀ b off, MemPlace.cell b off ∈ ps → ∀ u v, W.cell? ⟨b, off, none⟩ = some (.iface u v) → Value.okWide Tryz.prog W .any 0 u v) → (n, d) ∈ l → ∃ a, W.cell? ⟨g, 0, none⟩ = some (errV a)
 | [], _, _, _, h => by cases h
 | (n', d') :: r, ps, hv, hok, hm => by
  obtain ⟨g', t, cs, f, p, q, hg', ht', hvar, hd, hr, rfl⟩ := hv
  rcases List.mem_cons.1 hm with e | hm
  ·cases e
   obtain ⟨s, rfl⟩ := isSent_eq hd0
   obtain rfl := Option.some.inj (hg.symm.trans hg')
   obtain rfl := Option.some.inj (ht'.symm.trans ht)
   obtain ⟨lc⟩ := cs
   have ok0 : ∀ u v, lc = [.iface u v] → Value.okWide Tryz.prog W .any 0 u v := fun u v e => by
    subst e
    exact hok g 0 (by simp [MemPlace.row]) u v (by simpa using World.var?_cell hg hvar 0)
   obtain ⟨a, s', rfl, _, _, _, rfl⟩ := errorString_of_trod Tryz.underlying32 err_row Tryz.underlying390 Tryz.underlying392 rfl rfl Tryz.underlying9 err_cells str_cells hd ok0
   exact ⟨a, by simpa using World.var?_cell hg hvar 0⟩
  ·exact laid_one hg ht hd0 hr (fun b off hm => hok b off (List.mem_append_right _ hm)) hm

set_option maxRecDepth 100000 in
theorem one_of_laid {W : World} {l : List (String × DataW Unit)} (h : laidMet Tryz.prog l W) {n : String} {g : Nat} (hg : Tryz.prog.globalNamed n = some g) (ht : (Tryz.prog.globals[g]?).map (·.type) = some 32) (hs : (l.any fun x => x.1 == n && isSent x.2) = true) :
  ∃ a, W.cell? ⟨g, 0, none⟩ = some (errV a) := by
 obtain ⟨ps, hv, _, hrows⟩ := h
 obtain ⟨⟨n', d⟩, hm, hc⟩ := List.any_eq_true.1 hs
 simp only [Bool.and_eq_true, beq_iff_eq] at hc
 obtain ⟨rfl, hd⟩ := hc
 exact laid_one hg ht hd hv (fun b off hm => (hrows b off hm).2) hm
end Go.Proofs.YtnmhaipjfpongacGreatDoor
