/- Texts of this seat laid together for one claim: E2. No condition of its own: what each proves stands with its theorems. -/
import Derived.Test.YtnmhaipjfpongacGreatDoorPR0
namespace Go.Proofs.YtnmhaipjfpongacGreatDoor
open Go.RowKit Go.Extern.Stop Go.Stop Go.Extern

theorem asValueOfT (t : Addr) (w : World) : (ReflectliteValue.unpack (.iface 239 (.pointer (some t)))).run Tryz.prog w
  = .ok (.agg #[.pointer (some ⟨26, 239, none⟩), .pointer (some ⟨w.heap.size, 0, none⟩), .int .u64 150]) (w.alloc (.cells #[.pointer (some t)] 239)) := by kernel_rfl
theorem asTypeT (a : Addr) (w : World) : (ReflectliteValue.methodAny (ReflectliteValue.valueError "reflectlite.Value.Type" 0) (fun t _ _ _ => ReflectliteType.toType t) #[.agg #[.pointer (some ⟨26, 239, none⟩), .pointer (some a), .int .u64 150]]).run Tryz.prog w
  = .ok (.iface 326 (.agg #[.pointer (some ⟨26, 239, none⟩)])) w := by kernel_rfl
theorem asMethodKind (h : Value) (w : World) : (Go.method 529 326 (.agg #[h]) "Kind").run Tryz.prog w = .ok (360, h) w := by kernel_rfl
theorem asKindT (w : World) : (callFunc 360 #[.pointer (some ⟨26, 239, none⟩)]).run Tryz.prog w = .ok (.value (.int .u8 22)) w := by kernel_rfl
theorem asKindE (w : World) : (callFunc 360 #[.pointer (some ⟨26, 226, none⟩)]).run Tryz.prog w = .ok (.value (.int .u8 22)) w := by kernel_rfl

theorem rlm (z : Sem Value) (f : TypeId → Addr → Nat → Nat → Sem Value) (v : Value) :
  ReflectliteValue.method z f #[v] = (do match ← ReflectliteValue.parts v with | none => z | some (t, a, fl) => f t a fl (fl % 32)) := rfl
theorem asPartsT (a : Addr) (w : World) : (ReflectliteValue.parts (.agg #[.pointer (some ⟨26, 239, none⟩), .pointer (some a), .int .u64 150])).run Tryz.prog w = .ok (some (239, a, 150)) w := by kernel_rfl
theorem asIsNilT (a p : Addr) (W : World) (ha : W.cell? a = some (.pointer (some p))) :
  (ReflectliteValue.method (ReflectliteValue.valueError "reflectlite.Value.IsNil" 0) ReflectliteValue.isNil #[.agg #[.pointer (some ⟨26, 239, none⟩), .pointer (some a), .int .u64 150]]).run Tryz.prog W = .ok (.bool false) W := by
 rw [rlm]
 simp only [Sem.run_bind, asPartsT, Result.andThen]
 simp [ReflectliteValue.isNil, loadVar, isAgg, underlying, Tryz.underlying239, ha, Result.andThen]

theorem asMethodElem (h : Value) (w : World) : (Go.method 529 326 (.agg #[h]) "Elem").run Tryz.prog w = .ok (373, .agg #[h]) w := by kernel_rfl
theorem asMethodImplements (h : Value) (w : World) : (Go.method 529 326 (.agg #[h]) "Implements").run Tryz.prog w = .ok (374, .agg #[h]) w := by kernel_rfl
theorem asMethodAssignableTo (h : Value) (w : World) : (Go.method 529 326 (.agg #[h]) "AssignableTo").run Tryz.prog w = .ok (371, .agg #[h]) w := by kernel_rfl
theorem asElemT (w : World) : (callFunc 373 #[.agg #[.pointer (some ⟨26, 239, none⟩)]]).run Tryz.prog w = .ok (.value (.iface 326 (.agg #[.pointer (some ⟨26, 226, none⟩)]))) w := by kernel_rfl
theorem asImplementsE (w : World) : (callFunc 374 #[.agg #[.pointer (some ⟨26, 226, none⟩)], .iface 326 (.agg #[.pointer (some ⟨26, 32, none⟩)])]).run Tryz.prog w = .ok (.value (.bool true)) w := by kernel_rfl
theorem asTypeOfE (v : Value) (w : World) : (callFunc 218 #[.iface 226 v]).run Tryz.prog w = .ok (.value (.iface 326 (.agg #[.pointer (some ⟨26, 226, none⟩)]))) w := by kernel_rfl
theorem asTypeOfS (v : Value) (w : World) : (callFunc 218 #[.iface 390 v]).run Tryz.prog w = .ok (.value (.iface 326 (.agg #[.pointer (some ⟨26, 390, none⟩)]))) w := by kernel_rfl
theorem asAssignableE (w : World) : (callFunc 371 #[.agg #[.pointer (some ⟨26, 226, none⟩)], .iface 326 (.agg #[.pointer (some ⟨26, 226, none⟩)])]).run Tryz.prog w = .ok (.value (.bool true)) w := by kernel_rfl
theorem asAssignableS (w : World) : (callFunc 371 #[.agg #[.pointer (some ⟨26, 390, none⟩)], .iface 326 (.agg #[.pointer (some ⟨26, 226, none⟩)])]).run Tryz.prog w = .ok (.value (.bool false)) w := by kernel_rfl
theorem asValueOfE (e : Addr) (w : World) : (ReflectliteValue.unpack (.iface 226 (.pointer (some e)))).run Tryz.prog w
  = .ok (.agg #[.pointer (some ⟨26, 226, none⟩), .pointer (some ⟨w.heap.size, 0, none⟩), .int .u64 150]) (w.alloc (.cells #[.pointer (some e)] 226)) := by kernel_rfl
theorem noAsS (v : Value) (xT : TypeId) (w : World) : (Instr.typeAssert (.iface 390 v) xT 330 true).run Tryz.prog w = .ok (.tuple #[.nilIface, .bool false]) w := run_typeAssert_lacksB Tryz.underlying330 (by kernel_rfl) (by kernel_rfl) v xT w

theorem asElemOfT (w : World) : (Rtype.elem? 239).run Tryz.prog w = .ok (some 226) w := by kernel_rfl
theorem asMkE (p : Addr) (w : World) : (ReflectliteValue.mk 226 p ReflectliteValue.flagAddr).run Tryz.prog w = .ok (.agg #[.pointer (some ⟨26, 226, none⟩), .pointer (some p), .int .u64 406]) w := by kernel_rfl
theorem asElemV (a p : Addr) (W : World) (ha : W.cell? a = some (.pointer (some p))) :
  (ReflectliteValue.method (ReflectliteValue.valueError "reflectlite.Value.Elem" 0) ReflectliteValue.elem #[.agg #[.pointer (some ⟨26, 239, none⟩), .pointer (some a), .int .u64 150]]).run Tryz.prog W
   = .ok (.agg #[.pointer (some ⟨26, 226, none⟩), .pointer (some p), .int .u64 406]) W := by
 rw [rlm]
 simp only [Sem.run_bind, asPartsT, Result.andThen]
 simp [ReflectliteValue.elem, loadVar, isAgg, underlying, Tryz.underlying239, ha, Result.andThen, asElemOfT, asMkE]
theorem rls (v x : Value) : ReflectliteValue.set #[v, x] = (do
  let (some (dst, a, fl), some (src, b, _)) := (← ReflectliteValue.parts v, ← ReflectliteValue.parts x)
   | unsupported (.noEntry "extern/(internal/reflectlite.Value).Set.zeroValue")
  if fl / ReflectliteValue.flagAddr % 2 == 0 then unsupported (.noEntry "extern/(internal/reflectlite.Value).Set.unaddressable")
  let val ← loadVar src b
  if ← Rtype.directlyAssignable dst src then storeVar dst a val
  else if ← Rtype.implements dst src then
   if (← Rtype.kind src) == 20 then
    match val with
    | .nilIface => unsupported (.noEntry "extern/reflectlite: a nil value of one interface type handed on as a value of another")
    | _ => storeVar dst a val
   else storeVar dst a (.iface src val)
  else panicString ("reflectlite.Set: value of type " ++ (← Rtype.spelt src) ++ " is not assignable to type " ++ (← Rtype.spelt dst))
  pure (.tuple #[])) := rfl
theorem asPartsEa (a : Addr) (w : World) : (ReflectliteValue.parts (.agg #[.pointer (some ⟨26, 226, none⟩), .pointer (some a), .int .u64 406])).run Tryz.prog w = .ok (some (226, a, 406)) w := by kernel_rfl
theorem asPartsE (a : Addr) (w : World) : (ReflectliteValue.parts (.agg #[.pointer (some ⟨26, 226, none⟩), .pointer (some a), .int .u64 150])).run Tryz.prog w = .ok (some (226, a, 150)) w := by kernel_rfl
theorem asDirectE (w : World) : (Rtype.directlyAssignable 226 226).run Tryz.prog w = .ok true w := by kernel_rfl
theorem asSetE (ta b e : Addr) (old : Value) (W : World) (hb : W.cell? b = some (.pointer (some e))) (ht : W.cell? ta = some old) (hf : W.frozen? ta = false) :
  (ReflectliteValue.set #[.agg #[.pointer (some ⟨26, 226, none⟩), .pointer (some ta), .int .u64 406], .agg #[.pointer (some ⟨26, 226, none⟩), .pointer (some b), .int .u64 150]]).run Tryz.prog W
   = .ok (.tuple #[]) (W.setCell ta (.pointer (some e))) := by
 rw [rls]
 simp only [Sem.run_bind, asPartsEa, asPartsE, Result.andThen]
 simp [ReflectliteValue.flagAddr, loadVar, isAgg, underlying, Tryz.underlying226, hb, Result.andThen, asDirectE, storeVar, Value.cells, storeCells, Addr.add]
 rw [run_store Tryz.prog W ta _ _ (by rfl)]
 simp [ht, hf]

def errType : Value := .iface 326 (.agg #[.pointer (some ⟨26, 32, none⟩)])

set_option maxHeartbeats 4000000 in
theorem as_hit (e t : Addr) (old : Value) (w : World) (hg0 : w.cell? ⟨12, 0, none⟩ = some errType) (ht0 : w.cell? t = some old) (hf0 : w.frozen? t = false) :
  Calls Tryz.prog 168 #[.iface 226 (.pointer (some e)), .iface 239 (.pointer (some t))] w fun ev w' => ev = .returned (.bool true) ∧ w' = ((((w.alloc (.cells #[.pointer (some t)] 239)).alloc (.cells #[.pointer (some ⟨26, 239, none⟩), .pointer (some ⟨w.heap.size, 0, none⟩), .int .u64 150] 280)).alloc (.cells #[.pointer (some ⟨26, 239, none⟩), .pointer (some ⟨w.heap.size, 0, none⟩), .int .u64 150] 280)).alloc (.cells #[.pointer (some e)] 226)).setCell t (.pointer (some e)) := by
 have hg : w.cell? ⟨12, 0, none⟩ = some (.iface 326 (.agg #[.pointer (some ⟨26, 32, none⟩)])) := hg0
 have h6 := @run_callFunc_extern Tryz.prog 214 _ (fun args => ReflectliteValue.unpack (args.getD 0 (.tuple #[]))) Tryz.func214 (by kernel_rfl) (by kernel_rfl) (by kernel_rfl) (by kernel_rfl)
 have h7 := @run_callFunc_extern Tryz.prog 215 _ (ReflectliteValue.methodAny (ReflectliteValue.valueError "reflectlite.Value.Type" 0) (fun t _ _ _ => ReflectliteType.toType t)) Tryz.func215 (by kernel_rfl) (by kernel_rfl) (by kernel_rfl) (by kernel_rfl)
 have h8 := @run_callFunc_extern Tryz.prog 216 _ (ReflectliteValue.method (ReflectliteValue.valueError "reflectlite.Value.IsNil" 0) ReflectliteValue.isNil) Tryz.func216 (by kernel_rfl) (by kernel_rfl) (by kernel_rfl) (by kernel_rfl)
 have h11 := @run_callFunc_extern Tryz.prog 279 _ (ReflectliteValue.method (ReflectliteValue.valueError "reflectlite.Value.Elem" 0) ReflectliteValue.elem) Tryz.func279 (by kernel_rfl) (by kernel_rfl) (by kernel_rfl) (by kernel_rfl)
 have h12 := @run_callFunc_extern Tryz.prog 280 _ ReflectliteValue.set Tryz.func280 (by kernel_rfl) (by kernel_rfl) (by kernel_rfl) (by kernel_rfl)
 have tO := asTypeOfE
 have mA := asMethodAssignableTo
 have a25 := asAssignableE
 have v25 := asValueOfE
 have f6 := asValueOfT
 have f7 := asTypeT
 have mK := asMethodKind
 have mE := asMethodElem
 have mI := asMethodImplements
 have k27 := asKindT
 have k25 := asKindE
 have e27 := asElemT
 have i25 := asImplementsE
 have n8 := asIsNilT ⟨w.heap.size, 0, none⟩ t ((w.alloc (.cells #[.pointer (some t)] 239)).alloc (.cells #[.pointer (some ⟨26, 239, none⟩), .pointer (some ⟨w.heap.size, 0, none⟩), .int .u64 150] 280)) (by simp)
 have hlt : 12 < w.heap.size := lt_of_cell hg
 have hg2 : ((w.alloc (.cells #[.pointer (some t)] 239)).alloc (.cells #[.pointer (some ⟨26, 239, none⟩), .pointer (some ⟨w.heap.size, 0, none⟩), .int .u64 150] 280)).cell? ⟨12, 0, none⟩ = some (.iface 326 (.agg #[.pointer (some ⟨26, 32, none⟩)])) := by
  rw [World.cell?_alloc_lt _ _ ⟨12, 0, none⟩ (by simp; omega), World.cell?_alloc_lt _ _ ⟨12, 0, none⟩ hlt]; exact hg
 have htl : t.block < w.heap.size := lt_of_cell ht0
 have el := asElemV ⟨w.heap.size, 0, none⟩ t (((w.alloc (.cells #[.pointer (some t)] 239)).alloc (.cells #[.pointer (some ⟨26, 239, none⟩), .pointer (some ⟨w.heap.size, 0, none⟩), .int .u64 150] 280)).alloc (.cells #[.pointer (some ⟨26, 239, none⟩), .pointer (some ⟨w.heap.size, 0, none⟩), .int .u64 150] 280)) (by rw [World.cell?_alloc_lt _ _ ⟨w.heap.size, 0, none⟩ (by simp; omega)]; simp)
 have st := asSetE t ⟨w.heap.size + 1 + 1 + 1, 0, none⟩ e old ((((w.alloc (.cells #[.pointer (some t)] 239)).alloc (.cells #[.pointer (some ⟨26, 239, none⟩), .pointer (some ⟨w.heap.size, 0, none⟩), .int .u64 150] 280)).alloc (.cells #[.pointer (some ⟨26, 239, none⟩), .pointer (some ⟨w.heap.size, 0, none⟩), .int .u64 150] 280)).alloc (.cells #[.pointer (some e)] 226))
  (by rw [World.cell?_alloc_at _ _ _ _ (by simp)]; rfl)
  (by rw [World.cell?_alloc_lt _ _ t (by simp; omega), World.cell?_alloc_lt _ _ t (by simp; omega), World.cell?_alloc_lt _ _ t (by simp; omega), World.cell?_alloc_lt _ _ t htl]; exact ht0)
  (by rw [World.frozen?_alloc_old _ _ t (by simp; omega), World.frozen?_alloc_old _ _ t (by simp; omega), World.frozen?_alloc_old _ _ t (by simp; omega), World.frozen?_alloc_old _ _ t (Nat.ne_of_lt htl)]; exact hf0)
 go_enter Tryz.func168, Tryz.ntmps168
 go_wp2
 refine wp_loop_rounds 1 ?_
 rw [rounds_succ]
 go_wp2
 go_ret
 exact ⟨rfl, rfl⟩

set_option maxHeartbeats 4000000 in
theorem as_miss (s t : Addr) (w : World) (hg0 : w.cell? ⟨12, 0, none⟩ = some errType) :
  Calls Tryz.prog 168 #[.iface 390 (.pointer (some s)), .iface 239 (.pointer (some t))] w fun ev w' => ev = .returned (.bool false) ∧ Ext w w' := by
 have hg : w.cell? ⟨12, 0, none⟩ = some (.iface 326 (.agg #[.pointer (some ⟨26, 32, none⟩)])) := hg0
 have h6 := @run_callFunc_extern Tryz.prog 214 _ (fun args => ReflectliteValue.unpack (args.getD 0 (.tuple #[]))) Tryz.func214 (by kernel_rfl) (by kernel_rfl) (by kernel_rfl) (by kernel_rfl)
 have h7 := @run_callFunc_extern Tryz.prog 215 _ (ReflectliteValue.methodAny (ReflectliteValue.valueError "reflectlite.Value.Type" 0) (fun t _ _ _ => ReflectliteType.toType t)) Tryz.func215 (by kernel_rfl) (by kernel_rfl) (by kernel_rfl) (by kernel_rfl)
 have h8 := @run_callFunc_extern Tryz.prog 216 _ (ReflectliteValue.method (ReflectliteValue.valueError "reflectlite.Value.IsNil" 0) ReflectliteValue.isNil) Tryz.func216 (by kernel_rfl) (by kernel_rfl) (by kernel_rfl) (by kernel_rfl)
 have tO := asTypeOfS
 have mA := asMethodAssignableTo
 have a25 := asAssignableS
 have f6 := asValueOfT
 have f7 := asTypeT
 have mK := asMethodKind
 have mE := asMethodElem
 have mI := asMethodImplements
 have k27 := asKindT
 have k25 := asKindE
 have e27 := asElemT
 have i25 := asImplementsE
 have nA := noAsS
 have uE := noUnwrapE
 have vE := noUnwrapsE
 have n8 := asIsNilT ⟨w.heap.size, 0, none⟩ t ((w.alloc (.cells #[.pointer (some t)] 239)).alloc (.cells #[.pointer (some ⟨26, 239, none⟩), .pointer (some ⟨w.heap.size, 0, none⟩), .int .u64 150] 280)) (by simp)
 have hlt : 12 < w.heap.size := lt_of_cell hg
 have hg2 : ((w.alloc (.cells #[.pointer (some t)] 239)).alloc (.cells #[.pointer (some ⟨26, 239, none⟩), .pointer (some ⟨w.heap.size, 0, none⟩), .int .u64 150] 280)).cell? ⟨12, 0, none⟩ = some (.iface 326 (.agg #[.pointer (some ⟨26, 32, none⟩)])) := by
  rw [World.cell?_alloc_lt _ _ ⟨12, 0, none⟩ (by simp; omega), World.cell?_alloc_lt _ _ ⟨12, 0, none⟩ hlt]; exact hg
 go_enter Tryz.func168, Tryz.ntmps168
 go_wp2
 refine wp_loop_rounds 1 ?_
 rw [rounds_succ]
 go_wp2
 go_ret
 refine ⟨rfl, ?_⟩
 repeat' (first | with_reducible exact Only.refl _ _ | apply Only.thenAlloc)
end Go.Proofs.YtnmhaipjfpongacGreatDoor
