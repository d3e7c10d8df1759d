/- A part of this claim's proof;each theorem bears its own conditions. -/
import Derived.Test.YtnmhaipjfpongacGreatDoorPR4
set_option maxRecDepth 100000
set_option maxHeartbeats 4000000
namespace Go.Proofs.YtnmhaipjfpongacGreatDoor
open Go.RowKit Go.Extern.Stop Go.Stop Go.Extern
theorem Zd9(t:Addr)(w:World):(ReflectliteValue.unpack (.iface 239 (.pointer (some t)))).run Tryz.prog w
  = .ok (.agg #[.pointer (some ⟨26,239,none⟩),.pointer (some ⟨w.heap.size,0,none⟩),.int .u64 150]) (w.alloc (.cells #[.pointer (some t)] 239)):=by kernel_rfl
theorem Zq2(a:Addr)(w:World):(ReflectliteValue.methodAny (ReflectliteValue.valueError "reflectlite.Value.Type" 0) (fun t _ _ _=>ReflectliteType.toType t) #[.agg #[.pointer (some ⟨26,239,none⟩),.pointer (some a),.int .u64 150]]).run Tryz.prog w
  = .ok (.iface 326 (.agg #[.pointer (some ⟨26,239,none⟩)])) w:=by kernel_rfl
theorem Z9p(h:Value)(w:World):(Go.method 529 326 (.agg #[h]) "Kind").run Tryz.prog w=.ok (360,h) w:=by kernel_rfl
theorem Zq6(w:World):(callFunc 360 #[.pointer (some ⟨26,239,none⟩)]).run Tryz.prog w=.ok (.value (.int .u8 22)) w:=by kernel_rfl
theorem Zq7(w:World):(callFunc 360 #[.pointer (some ⟨26,226,none⟩)]).run Tryz.prog w=.ok (.value (.int .u8 22)) w:=by kernel_rfl
theorem rlm(z:Sem Value)(f:TypeId→Addr→Nat→Nat→Sem Value)(v:Value) :
  ReflectliteValue.method z f #[v]=(do match ←ReflectliteValue.parts v with|none=>z|some (t,a,fl)=>f t a fl (fl % 32)):=rfl
theorem Zkz(a:Addr)(w:World):(ReflectliteValue.parts (.agg #[.pointer (some ⟨26,239,none⟩),.pointer (some a),.int .u64 150])).run Tryz.prog w=.ok (some (239,a,150)) w:=by kernel_rfl
theorem Zl0(a p:Addr)(W:World)(ha:W.cell? a=some (.pointer (some p))) :
  (ReflectliteValue.method (ReflectliteValue.valueError "reflectlite.Value.IsNil" 0) ReflectliteValue.isNil #[.agg #[.pointer (some ⟨26,239,none⟩),.pointer (some a),.int .u64 150]]).run Tryz.prog W=.ok (.bool false) W:=by
 rw[rlm];simp only[Sem.run_bind,Zkz,Result.andThen];simp[ReflectliteValue.isNil,loadVar,isAgg,underlying,Tryz.underlying239,ha,Result.andThen]
theorem Z9q(h:Value)(w:World):(Go.method 529 326 (.agg #[h]) "Elem").run Tryz.prog w=.ok (373,.agg #[h]) w:=by kernel_rfl
theorem Z4s(h:Value)(w:World):(Go.method 529 326 (.agg #[h]) "Implements").run Tryz.prog w=.ok (374,.agg #[h]) w:=by kernel_rfl
theorem Z3y(h:Value)(w:World):(Go.method 529 326 (.agg #[h]) "AssignableTo").run Tryz.prog w=.ok (371,.agg #[h]) w:=by kernel_rfl
theorem Zq8(w:World):(callFunc 373 #[.agg #[.pointer (some ⟨26,239,none⟩)]]).run Tryz.prog w=.ok (.value (.iface 326 (.agg #[.pointer (some ⟨26,226,none⟩)]))) w:=by kernel_rfl
theorem Z8m(w:World):(callFunc 374 #[.agg #[.pointer (some ⟨26,226,none⟩)],.iface 326 (.agg #[.pointer (some ⟨26,32,none⟩)])]).run Tryz.prog w=.ok (.value (.bool true)) w:=by kernel_rfl
theorem Zq4(v:Value)(w:World):(callFunc 218 #[.iface 226 v]).run Tryz.prog w=.ok (.value (.iface 326 (.agg #[.pointer (some ⟨26,226,none⟩)]))) w:=by kernel_rfl
theorem Zq3(v:Value)(w:World):(callFunc 218 #[.iface 390 v]).run Tryz.prog w=.ok (.value (.iface 326 (.agg #[.pointer (some ⟨26,390,none⟩)]))) w:=by kernel_rfl
theorem Zez(w:World):(callFunc 371 #[.agg #[.pointer (some ⟨26,226,none⟩)],.iface 326 (.agg #[.pointer (some ⟨26,226,none⟩)])]).run Tryz.prog w=.ok (.value (.bool true)) w:=by kernel_rfl
theorem Zey(w:World):(callFunc 371 #[.agg #[.pointer (some ⟨26,390,none⟩)],.iface 326 (.agg #[.pointer (some ⟨26,226,none⟩)])]).run Tryz.prog w=.ok (.value (.bool false)) w:=by kernel_rfl
theorem Zna(e:Addr)(w:World):(ReflectliteValue.unpack (.iface 226 (.pointer (some e)))).run Tryz.prog w
  = .ok (.agg #[.pointer (some ⟨26,226,none⟩),.pointer (some ⟨w.heap.size,0,none⟩),.int .u64 150]) (w.alloc (.cells #[.pointer (some e)] 226)):=by kernel_rfl
theorem noAsS(v:Value)(xT:TypeId)(w:World):(Instr.typeAssert (.iface 390 v) xT 330 true).run Tryz.prog w=.ok (.tuple #[.nilIface,.bool false]) w:=run_typeAssert_lacksB Tryz.underlying330 (by kernel_rfl) (by kernel_rfl) v xT w
theorem Zq9(w:World):(Rtype.elem? 239).run Tryz.prog w=.ok (some 226) w:=by kernel_rfl
theorem asMkE(p:Addr)(w:World):(ReflectliteValue.mk 226 p ReflectliteValue.flagAddr).run Tryz.prog w=.ok (.agg #[.pointer (some ⟨26,226,none⟩),.pointer (some p),.int .u64 406]) w:=by kernel_rfl
theorem asElemV(a p:Addr)(W:World)(ha:W.cell? a=some (.pointer (some p))) :
  (ReflectliteValue.method (ReflectliteValue.valueError "reflectlite.Value.Elem" 0) ReflectliteValue.elem #[.agg #[.pointer (some ⟨26,239,none⟩),.pointer (some a),.int .u64 150]]).run Tryz.prog W
   = .ok (.agg #[.pointer (some ⟨26,226,none⟩),.pointer (some p),.int .u64 406]) W:=by
 rw[rlm];simp only[Sem.run_bind,Zkz,Result.andThen];simp[ReflectliteValue.elem,loadVar,isAgg,underlying,Tryz.underlying239,ha,Result.andThen,Zq9,asMkE]
theorem rls(v x:Value):ReflectliteValue.set #[v,x]=(do
  let (some (dst,a,fl),some (src,b,_)):=(←ReflectliteValue.parts v,←ReflectliteValue.parts x)
   | unsupported (.noEntry "extern/(internal/reflectlite.Value).Set.zeroValue")
  if fl / ReflectliteValue.flagAddr % 2==0 then unsupported (.noEntry "extern/(internal/reflectlite.Value).Set.unaddressable")
  let val ←loadVar src b
  if ←Rtype.directlyAssignable dst src then storeVar dst a val
  else if ←Rtype.implements dst src then
   if (←Rtype.kind src)==20 then
    match val with
    | .nilIface=>unsupported (.noEntry "extern/reflectlite: a nil value of one interface type handed on as a value of another")
    | _=>storeVar dst a val
   else storeVar dst a (.iface src val)
  else panicString ("reflectlite.Set: value of type " ++ (←Rtype.spelt src) ++ " is not assignable to type " ++ (←Rtype.spelt dst))
  pure (.tuple #[])):=rfl
theorem Zq5(a:Addr)(w:World):(ReflectliteValue.parts (.agg #[.pointer (some ⟨26,226,none⟩),.pointer (some a),.int .u64 406])).run Tryz.prog w=.ok (some (226,a,406)) w:=by kernel_rfl
theorem asPartsE(a:Addr)(w:World):(ReflectliteValue.parts (.agg #[.pointer (some ⟨26,226,none⟩),.pointer (some a),.int .u64 150])).run Tryz.prog w=.ok (some (226,a,150)) w:=by kernel_rfl
theorem Zqa(w:World):(Rtype.directlyAssignable 226 226).run Tryz.prog w=.ok true w:=by kernel_rfl
theorem asSetE(ta b e:Addr)(old:Value)(W:World)(hb:W.cell? b=some (.pointer (some e)))(ht:W.cell? ta=some old)(hf:W.frozen? ta=false) :
  (ReflectliteValue.set #[.agg #[.pointer (some ⟨26,226,none⟩),.pointer (some ta),.int .u64 406],.agg #[.pointer (some ⟨26,226,none⟩),.pointer (some b),.int .u64 150]]).run Tryz.prog W
   = .ok (.tuple #[]) (W.setCell ta (.pointer (some e))):=by
 rw[rls];simp only[Sem.run_bind,Zq5,asPartsE,Result.andThen];simp[ReflectliteValue.flagAddr,loadVar,isAgg,underlying,Tryz.underlying226,hb,Result.andThen,Zqa,storeVar,Value.cells,storeCells,Addr.add];rw[run_store Tryz.prog W ta _ _ (by rfl)]
 simp[ht,hf]
def Zeh:Value:=.iface 326 (.agg #[.pointer (some ⟨26,32,none⟩)])
theorem as_hit(e t:Addr)(old:Value)(w:World)(hg0:w.cell? ⟨12,0,none⟩=some Zeh)(ht0:w.cell? t=some old)(hf0:w.frozen? t=false) :
  Calls Tryz.prog 168 #[.iface 226 (.pointer (some e)),.iface 239 (.pointer (some t))] w fun ev w'=>ev=.returned (.bool true)∧w'=((((w.alloc (.cells #[.pointer (some t)] 239)).alloc (.cells #[.pointer (some ⟨26,239,none⟩),.pointer (some ⟨w.heap.size,0,none⟩),.int .u64 150] 280)).alloc (.cells #[.pointer (some ⟨26,239,none⟩),.pointer (some ⟨w.heap.size,0,none⟩),.int .u64 150] 280)).alloc (.cells #[.pointer (some e)] 226)).setCell t (.pointer (some e)):=by
 have hg:w.cell? ⟨12,0,none⟩=some (.iface 326 (.agg #[.pointer (some ⟨26,32,none⟩)])):=hg0
 have h6:=@run_callFunc_extern Tryz.prog 214 _ (fun args=>ReflectliteValue.unpack (args.getD 0 (.tuple #[]))) Tryz.func214 (by kernel_rfl) (by kernel_rfl) (by kernel_rfl) (by kernel_rfl)
 have h7:=@run_callFunc_extern Tryz.prog 215 _ (ReflectliteValue.methodAny (ReflectliteValue.valueError "reflectlite.Value.Type" 0) (fun t _ _ _=>ReflectliteType.toType t)) Tryz.func215 (by kernel_rfl) (by kernel_rfl) (by kernel_rfl) (by kernel_rfl)
 have h8:=@run_callFunc_extern Tryz.prog 216 _ (ReflectliteValue.method (ReflectliteValue.valueError "reflectlite.Value.IsNil" 0) ReflectliteValue.isNil) Tryz.func216 (by kernel_rfl) (by kernel_rfl) (by kernel_rfl) (by kernel_rfl)
 have h11:=@run_callFunc_extern Tryz.prog 279 _ (ReflectliteValue.method (ReflectliteValue.valueError "reflectlite.Value.Elem" 0) ReflectliteValue.elem) Tryz.func279 (by kernel_rfl) (by kernel_rfl) (by kernel_rfl) (by kernel_rfl)
 have h12:=@run_callFunc_extern Tryz.prog 280 _ ReflectliteValue.set Tryz.func280 (by kernel_rfl) (by kernel_rfl) (by kernel_rfl) (by kernel_rfl)
 have tO:=Zq4;have mA:=Z3y;have a25:=Zez;have v25:=Zna;have f6:=Zd9;have f7:=Zq2;have mK:=Z9p;have mE:=Z9q;have mI:=Z4s;have k27:=Zq6;have k25:=Zq7;have e27:=Zq8;have i25:=Z8m;have n8:=Zl0 ⟨w.heap.size,0,none⟩ t ((w.alloc (.cells #[.pointer (some t)] 239)).alloc (.cells #[.pointer (some ⟨26,239,none⟩),.pointer (some ⟨w.heap.size,0,none⟩),.int .u64 150] 280)) (by simp)
 have hlt:12<w.heap.size:=Z3d hg;have hg2:((w.alloc (.cells #[.pointer (some t)] 239)).alloc (.cells #[.pointer (some ⟨26,239,none⟩),.pointer (some ⟨w.heap.size,0,none⟩),.int .u64 150] 280)).cell? ⟨12,0,none⟩=some (.iface 326 (.agg #[.pointer (some ⟨26,32,none⟩)])):=by
  rw[World.cell?_alloc_lt _ _ ⟨12,0,none⟩ (by simp;omega),World.cell?_alloc_lt _ _ ⟨12,0,none⟩ hlt];exact hg
 have htl:t.block<w.heap.size:=Z3d ht0;have el:=asElemV ⟨w.heap.size,0,none⟩ t (((w.alloc (.cells #[.pointer (some t)] 239)).alloc (.cells #[.pointer (some ⟨26,239,none⟩),.pointer (some ⟨w.heap.size,0,none⟩),.int .u64 150] 280)).alloc (.cells #[.pointer (some ⟨26,239,none⟩),.pointer (some ⟨w.heap.size,0,none⟩),.int .u64 150] 280)) (by rw[World.cell?_alloc_lt _ _ ⟨w.heap.size,0,none⟩ (by simp;omega)];simp)
 have st:=asSetE t ⟨w.heap.size+1+1+1,0,none⟩ e old ((((w.alloc (.cells #[.pointer (some t)] 239)).alloc (.cells #[.pointer (some ⟨26,239,none⟩),.pointer (some ⟨w.heap.size,0,none⟩),.int .u64 150] 280)).alloc (.cells #[.pointer (some ⟨26,239,none⟩),.pointer (some ⟨w.heap.size,0,none⟩),.int .u64 150] 280)).alloc (.cells #[.pointer (some e)] 226))
  (by rw[World.cell?_alloc_at _ _ _ _ (by simp)];rfl)
  (by rw[World.cell?_alloc_lt _ _ t (by simp;omega),World.cell?_alloc_lt _ _ t (by simp;omega),World.cell?_alloc_lt _ _ t (by simp;omega),World.cell?_alloc_lt _ _ t htl];exact ht0)
  (by rw[World.frozen?_alloc_old _ _ t (by simp;omega),World.frozen?_alloc_old _ _ t (by simp;omega),World.frozen?_alloc_old _ _ t (by simp;omega),World.frozen?_alloc_old _ _ t (Nat.ne_of_lt htl)];exact hf0)
 go_enter Tryz.func168,Tryz.ntmps168
 go_wp2
 refine wp_loop_rounds 1 ?_;rw[rounds_succ];go_wp2;go_ret;exact⟨rfl,rfl⟩
theorem as_miss(s t:Addr)(w:World)(hg0:w.cell? ⟨12,0,none⟩=some Zeh) :
  Calls Tryz.prog 168 #[.iface 390 (.pointer (some s)),.iface 239 (.pointer (some t))] w fun ev w'=>ev=.returned (.bool false)∧Ext w w':=by
 have hg:w.cell? ⟨12,0,none⟩=some (.iface 326 (.agg #[.pointer (some ⟨26,32,none⟩)])):=hg0
 have h6:=@run_callFunc_extern Tryz.prog 214 _ (fun args=>ReflectliteValue.unpack (args.getD 0 (.tuple #[]))) Tryz.func214 (by kernel_rfl) (by kernel_rfl) (by kernel_rfl) (by kernel_rfl)
 have h7:=@run_callFunc_extern Tryz.prog 215 _ (ReflectliteValue.methodAny (ReflectliteValue.valueError "reflectlite.Value.Type" 0) (fun t _ _ _=>ReflectliteType.toType t)) Tryz.func215 (by kernel_rfl) (by kernel_rfl) (by kernel_rfl) (by kernel_rfl)
 have h8:=@run_callFunc_extern Tryz.prog 216 _ (ReflectliteValue.method (ReflectliteValue.valueError "reflectlite.Value.IsNil" 0) ReflectliteValue.isNil) Tryz.func216 (by kernel_rfl) (by kernel_rfl) (by kernel_rfl) (by kernel_rfl)
 have tO:=Zq3;have mA:=Z3y;have a25:=Zey;have f6:=Zd9;have f7:=Zq2;have mK:=Z9p;have mE:=Z9q;have mI:=Z4s;have k27:=Zq6;have k25:=Zq7;have e27:=Zq8;have i25:=Z8m;have nA:=noAsS;have uE:=Z7z;have vE:=Z6l;have n8:=Zl0 ⟨w.heap.size,0,none⟩ t ((w.alloc (.cells #[.pointer (some t)] 239)).alloc (.cells #[.pointer (some ⟨26,239,none⟩),.pointer (some ⟨w.heap.size,0,none⟩),.int .u64 150] 280)) (by simp)
 have hlt:12<w.heap.size:=Z3d hg;have hg2:((w.alloc (.cells #[.pointer (some t)] 239)).alloc (.cells #[.pointer (some ⟨26,239,none⟩),.pointer (some ⟨w.heap.size,0,none⟩),.int .u64 150] 280)).cell? ⟨12,0,none⟩=some (.iface 326 (.agg #[.pointer (some ⟨26,32,none⟩)])):=by
  rw[World.cell?_alloc_lt _ _ ⟨12,0,none⟩ (by simp;omega),World.cell?_alloc_lt _ _ ⟨12,0,none⟩ hlt];exact hg
 go_enter Tryz.func168,Tryz.ntmps168
 go_wp2
 refine wp_loop_rounds 1 ?_;rw[rounds_succ];go_wp2;go_ret;refine⟨rfl,?_⟩
 repeat' (first|with_reducible exact Only.refl _ _|apply Only.thenAlloc)
end Go.Proofs.YtnmhaipjfpongacGreatDoor
namespace Go.Proofs.YtnmhaipjfpongacGreatDoor
open Go.ChangeShapes Go.WideShapes Go.ChangeAt Go.RowKit
def Zj6:List Nat:=[8,2,0,9,10,1,3,4,7,11,6,5]
abbrev errV(a:Addr):Value:=.iface 390 (.pointer (some a))
structure Sents(w:World)(p:Nat→Addr):Prop where
 var:∀i g,Zj6[i]?=some g→w.cell? ⟨g,0,none⟩=some (errV (p i))
 row:∀i,i<12→∃c t,w.heap[(p i).block]?=some (.cells c t (0,0))
 apart:∀i j,i<12→j<12→p i=p j→i=j
 typ:w.cell? ⟨12,0,none⟩=some Zeh
theorem Sents.ext{w w':World}{p:Nat→Addr}(h:Sents w p)(ho:Ext w w'):Sents w' p:=
 ⟨fun i g hg=>ho.cellOf (h.var i g hg) (fun h=>h),fun i hi=>by obtain⟨c,t,hc⟩:=h.row i hi;exact⟨c,t,ho.heapOf hc (fun h=>h)⟩,h.apart,ho.cellOf h.typ (fun h=>h)⟩
structure Errs(w:World)(p:Nat→Addr)(L:List Nat):Prop where
 var:∀i g,i∈L→Zj6[i]?=some g→w.cell? ⟨g,0,none⟩=some (errV (p i))
theorem Errs.ext{w w':World}{p:Nat→Addr}{L:List Nat}(h:Errs w p L)(ho:Ext w w'):Errs w' p L:=⟨fun i g hi hg=>ho.cellOf (h.var i g hi hg) (fun h=>h)⟩
theorem Errs.sub{w:World}{p:Nat→Addr}{L K:List Nat}(h:Errs w p L)(hk:∀i∈K,i∈L):Errs w p K:=⟨fun i g hi hg=>h.var i g (hk i hi) hg⟩
theorem Sents.errs{w:World}{p:Nat→Addr}(h:Sents w p)(L:List Nat):Errs w p L:=⟨fun i g _ hg=>h.var i g hg⟩
def Zho(w:World)(c at_:Int)(e:Ending)(w':World):Prop:=e=.returned (.tuple #[I c,I at_])∧Ext w w'
theorem code_nil(w:World):Calls Tryz.prog 96 #[.nilIface] w (Zho w 0 (-1)):=by
 go_enter Tryz.func96,Tryz.ntmps96
 go_wp2
 go_ret2;exact⟨rfl,Only.refl _ _⟩
abbrev Z31(p:Nat→Addr):Array Value:=#[errV (p 0),errV (p 1),errV (p 2),errV (p 3),errV (p 4),errV (p 5),errV (p 6),errV (p 7),errV (p 8),errV (p 9),errV (p 10),errV (p 11)]
theorem Zbf(p:Nat→Addr)(k:Nat)(hk:k<12):(Z31 p)[k]?=some (errV (p k)):=by
 have:k=0∨k=1∨k=2∨k=3∨k=4∨k=5∨k=6∨k=7∨k=8∨k=9∨k=10∨k=11:=by omega
 rcases this with rfl|rfl|rfl|rfl|rfl|rfl|rfl|rfl|rfl|rfl|rfl|rfl <;> rfl
theorem code_err(w:World)(p:Nat→Addr)(hs:Sents w p)(a:Addr)(i0:Nat)(hi:i0≤12)(heq:i0<12→p i0=a)(hne:∀j,j<12→j≠i0→p j≠a)(ca:Array Value)(ta:TypeId)(ha:w.heap[a.block]?=some (.cells ca ta (0,0))) :
  Calls Tryz.prog 96 #[errV a] w (Zho w (if i0<12 then(i0:Int)+1 else -1) (-1)):=by
 obtain⟨c,hc⟩:∃c:Int,Hid (c=if i0<12 then(i0:Int)+1 else -1):=⟨_,Q0 rfl⟩
 rw[←hc.out];have HS:=Q0 hs;have HA:=Q0 ha;have HE:=Q0 heq;have HN:=Q0 hne;clear hs ha heq hne;go_enter Tryz.func96,Tryz.ntmps96;go_wp2_with fail;refine(as_miss a ⟨w.heap.size,0,none⟩ _ ((Only.alloc (fun _=>False) w _).cellOf HS.out.typ (fun h=>h))).mono ?_
 rintro e w2 ⟨rfl,ho⟩;have h2:Ext w w2:=(Only.alloc (fun _=>False) w _).ext ho
 have s2:=HS.out.ext h2;have q0:=s2.var 0 _ rfl;have q1:=s2.var 1 _ rfl;have q2:=s2.var 2 _ rfl;have q3:=s2.var 3 _ rfl;have q4:=s2.var 4 _ rfl;have q5:=s2.var 5 _ rfl;have q6:=s2.var 6 _ rfl;have q7:=s2.var 7 _ rfl;have q8:=s2.var 8 _ rfl;have q9:=s2.var 9 _ rfl;have q10:=s2.var 10 _ rfl;have q11:=s2.var 11 _ rfl;have S2:=Q0 s2;have H2:=Q0 h2;clear s2 h2 ho;go_wp2_with fail;have hcell:∀k,k<12→(w2.alloc (.cells (Z31 p) 32)).cell? ⟨w2.heap.size,k,none⟩=some (errV (p k)):=fun k hk=>(Z00 (MapKept.heap_alloc w2 _).1 k).trans (Zbf p k hk)
 have hrow:∀k,k<12→∃c t,(w2.alloc (.cells (Z31 p) 32)).heap[(p k).block]?=some (.cells c t (0,0)):=fun k hk=>by
  obtain⟨c,t,h⟩:=S2.out.row k hk;exact⟨c,t,(Only.alloc (fun _=>False) w2 _).heapOf h (fun h=>h)⟩
 have harow:(w2.alloc (.cells (Z31 p) 32)).heap[a.block]?=some (.cells ca ta (0,0)):=(H2.out.thenAlloc _).heapOf HA.out (fun h=>h)
 have hext:Ext w (w2.alloc (.cells (Z31 p) 32)):=H2.out.thenAlloc _;generalize (w2.alloc (.cells (Z31 p) 32))=w3 at hcell hrow harow hext ⊢;have HC:=Q0 hcell;have HR:=Q0 hrow;have HB:=Q0 harow;have HX:=Q0 hext;clear hcell hrow harow hext q0 q1 q2 q3 q4 q5 q6 q7 q8 q9 q10 q11;generalize w2.heap.size=blk at HC ⊢;go_loop [3,30] (fun t i=>t=.int .i64 (-1)∧∃k:Nat,k≤i0∧i=.int .i64 k) (fun _ i=>13-(intOf i).toNat)
 case atStart=>exact⟨rfl,0,Nat.zero_le _,rfl⟩
 case round=>
  obtain⟨rfl,k,hk,rfl⟩:=hrel;by_cases hlt:k<12
  ·have hkc:=HC.out k hlt
   have hltz:(k:Int)<12:=by omega
   by_cases hki:k=i0
   ·subst hki
    have hp:=HE.out hlt;rw[hp]at hkc;clear hp;go_wp2_with (go_at_call 169;refine(is_same a _).mono ?_;rintro e w' ⟨rfl,rfl⟩);go_ret2;refine⟨?_,HX.out⟩;rw[hc.out,if_pos hlt];rfl
   ·obtain⟨c1,t1,hr1⟩:=HR.out k hlt
    have hpne:=HN.out k hlt hki;have hkl:k<i0:=by omega
    have hio:=is_other a (p k) ca c1 ta t1 w3 (Ne.symm hpne) HB.out hr1;have HI:=Q0 hio;clear hr1 hpne hio hki;go_wp2_with (go_at_call 169;refine HI.out.mono ?_;rintro e w' ⟨rfl,rfl⟩);go_round
    case rel=>exact⟨rfl,k+1,by omega,by go_num⟩
    case measure=>simp[intOf];omega
  ·have hltz:¬((k:Int)<12):=by omega
   have hk12:k=12:=by omega
   have hi12:¬i0<12:=by omega
   go_wp2_with fail;go_ret2
   refine⟨?_,HX.out⟩;rw[hc.out,if_neg hi12];rfl
theorem Zet(w:World)(b:Nat)(v:Value){old:Value}{a:Addr}(h:w.cell? a=some old)(ha:a=⟨b,0,none⟩):(w.setCell a v).cell? ⟨b,0,none⟩=some v:=by
 subst ha;unfold World.cell? at h ⊢;simp only[World.setCell,Array.getElem?_modify,if_true];cases hh:w.heap[b]? with
 | none=>rw[hh]at h;cases h
 | some o=>
  rw[hh]at h;cases o with
  | cells c e fr=>
   simp at h
   have hl:0<c.size:=(Array.getElem?_eq_some_iff.1 h).1;simp[hl]
  | _=>cases h
theorem Zn6(w:World)(p:Nat→Addr)(hs:Sents w p)(pb i0:Nat)(at_:Int)(hi:i0<12)(ha0:w.cell? ⟨pb,0,none⟩=some (I at_))(ha1:w.cell? ⟨pb,1,none⟩=some (errV (p i0))) :
  Calls Tryz.prog 96 #[.iface 226 (.pointer (some ⟨pb,0,none⟩))] w (Zho w ((i0:Int)+1) at_):=by
 have HS:=Q0 hs;have HA0:=Q0 ha0;have HA1:=Q0 ha1;clear hs ha0 ha1;go_enter Tryz.func96,Tryz.ntmps96;go_wp2_with fail;refine(as_hit ⟨pb,0,none⟩ ⟨w.heap.size,0,none⟩ (.pointer none) _ ((Only.alloc (fun _=>False) w _).cellOf HS.out.typ (fun h=>h)) (by simp) (by simp)).mono ?_
 rintro e w2 ⟨rfl,hw2⟩;have hb2:w2.cell? ⟨w.heap.size,0,none⟩=some (.pointer (some ⟨pb,0,none⟩)):=by
  rw[hw2];refine Zet _ _ _ (Only.cellOf (p:=fun _=>False) ?_ ((Z00 (MapKept.heap_alloc w (.cells #[.pointer none] 226)).1 0).trans rfl) (fun h=>h)) rfl
  repeat' (first|with_reducible exact Only.refl _ _|apply Only.thenAlloc)
 have h2:Ext w w2:=by
  rw[hw2];refine Only.thenSet ?_ _ (.inr (Nat.le_refl _))
  repeat' (first|with_reducible exact Only.refl _ _|apply Only.thenAlloc)
 clear hw2;have s2:=HS.out.ext h2;have c0:=h2.cellOf HA0.out (fun h=>h)
 have q0:=s2.var 0 _ rfl;have q1:=s2.var 1 _ rfl;have q2:=s2.var 2 _ rfl;have q3:=s2.var 3 _ rfl;have q4:=s2.var 4 _ rfl;have q5:=s2.var 5 _ rfl;have q6:=s2.var 6 _ rfl;have q7:=s2.var 7 _ rfl;have q8:=s2.var 8 _ rfl;have q9:=s2.var 9 _ rfl;have q10:=s2.var 10 _ rfl;have q11:=s2.var 11 _ rfl;have S2:=Q0 s2;have H2:=Q0 h2;clear s2 h2;go_wp2_with fail;have hcell:∀k,k<12→(w2.alloc (.cells (Z31 p) 32)).cell? ⟨w2.heap.size,k,none⟩=some (errV (p k)):=fun k hk=>(Z00 (MapKept.heap_alloc w2 _).1 k).trans (Zbf p k hk)
 have hrow:∀k,k<12→∃c t,(w2.alloc (.cells (Z31 p) 32)).heap[(p k).block]?=some (.cells c t (0,0)):=fun k hk=>by
  obtain⟨c,t,h⟩:=S2.out.row k hk;exact⟨c,t,(Only.alloc (fun _=>False) w2 _).heapOf h (fun h=>h)⟩
 have h1c:(w2.alloc (.cells (Z31 p) 32)).cell? ⟨pb,1,none⟩=some (errV (p i0)):=(H2.out.thenAlloc _).cellOf HA1.out (fun h=>h)
 have hext:Ext w (w2.alloc (.cells (Z31 p) 32)):=H2.out.thenAlloc _;generalize (w2.alloc (.cells (Z31 p) 32))=w3 at hcell hrow h1c hext ⊢;have HC:=Q0 hcell;have HR:=Q0 hrow;have HB:=Q0 h1c;have HX:=Q0 hext;clear hcell hrow h1c hext c0 q0 q1 q2 q3 q4 q5 q6 q7 q8 q9 q10 q11;generalize w2.heap.size=blk at HC ⊢;go_loop [3,30] (fun t i=>t=.int .i64 at_∧∃k:Nat,k≤i0∧i=.int .i64 k) (fun _ i=>13-(intOf i).toNat)
 case atStart=>exact⟨rfl,0,Nat.zero_le _,rfl⟩
 case round=>
  obtain⟨rfl,k,hk,rfl⟩:=hrel;by_cases hlt:k<12
  ·have hkc:=HC.out k hlt
   have hltz:(k:Int)<12:=by omega
   by_cases hki:k=i0
   ·subst hki
    have hio:=Ze8 pb (p k) w3 HB.out;have HI:=Q0 hio;clear hio;go_wp2_with (go_at_call 169;refine HI.out.mono ?_;rintro e w' ⟨rfl,rfl⟩);go_ret2;exact⟨rfl,HX.out⟩
   ·obtain⟨c1,t1,hr1⟩:=HR.out k hlt
    obtain⟨c2,t2,hr2⟩:=HR.out i0 hi;have hkl:k<i0:=by omega
    have hpne:p i0≠p k:=fun e=>hki (HS.out.apart k i0 hlt hi e.symm)
    have hio:=Zc2 pb (p k) (p i0) c2 c1 t2 t1 w3 HB.out hpne hr2 hr1;have HI:=Q0 hio;clear hr1 hr2 hpne hio hki;go_wp2_with (go_at_call 169;refine HI.out.mono ?_;rintro e w' ⟨rfl,rfl⟩);go_round
    case rel=>exact⟨rfl,k+1,by omega,by go_num⟩
    case measure=>simp[intOf];omega
  ·omega
open Go.MapKept (heap_alloc)
theorem Zmy(a:Addr)(n c:Nat)(w:World):(binOp .eql 53 (.slice (some a) n c) (.slice none 0 0)).run Tryz.prog w=.ok (.bool false) w:=by kernel_rfl
theorem Zmz(w:World):(binOp .eql 53 (.slice none 0 0) (.slice none 0 0)).run Tryz.prog w=.ok (.bool true) w:=by kernel_rfl
attribute [local go_sem] Zmy Zmz
theorem Z8j(w:World)(s:B)(a:Addr)(hs:s.length≤1000000)(hm:Z1m w)(he:w.cell? ⟨9,0,none⟩=some (errV a)) :
  Calls Tryz.prog 112 #[S s] w fun e w'=>e=.returned (if Z0y s then .nilIface else errV a)∧Ext w w':=by
 have HP:=Q0 (Zoh w false s hs hm);have HE:=Q0 he;clear he hm hs;obtain⟨r,hr⟩:∃r,r=Z0y s:=⟨_,rfl⟩;rw[←hr];have HR:=Q0 hr;clear hr;go_enter Tryz.func112,Tryz.ntmps112;go_wp2_with fail;refine HP.out.mono ?_;rintro e w' ⟨ho,⟨hok,b,rfl,hl⟩|⟨hok,rfl⟩⟩
 ·have HO:=Q0 ho
  have hr:r=true:=HR.out.trans hok
  subst hr;clear ho hl hok;go_wp2;go_ret;exact⟨rfl,HO.out⟩
 ·have HO:=Q0 ho
  have hr:r=false:=HR.out.trans hok
  subst hr;have he:=ho.cellOf HE.out (fun h=>h)
  clear ho hok;go_wp2;go_ret;exact⟨rfl,HO.out⟩
end Go.Proofs.YtnmhaipjfpongacGreatDoor
namespace Go.Proofs.YtnmhaipjfpongacGreatDoor
open Go.ChangeShapes Go.WideShapes Go.ChangeAt Go.RowKit
theorem rowRd{W:World}{base:Nat}{g cap n:Nat}{l:List B}(h:W.ownsRow base 9 1 (.slice (some ⟨g,0,none⟩) n cap) n (l.map S)):∀i x,l[i]?=some x→W.cell? ⟨g,i,none⟩=some (S x):=fun i x hx=>by
 rcases h.2 with⟨h2,_⟩|⟨g',cap',cur,hv,_,hh,_,_,hs,ht⟩
 ·cases h2
 ·cases hv
  have hn:l.length=n:=by simpa using h.1
  have hi:i<l.length:=(Q2 hx).1;have hcell:cur[i]?=(cur.toList.take (n*1))[i]?:=by rw[List.getElem?_take_of_lt (by omega)];simp
  rw[ht,List.getElem?_map,hx]at hcell;rw[Z00 hh];simpa using hcell
def Zdb(w:World)(st:Bool)(s:B)(e:Ending)(w':World):Prop:=
 Ext w w'∧((Z2b st (cut s)=true∧∃g cap,e=.returned (.slice (some ⟨g,0,none⟩) (cut s).length cap)∧∀i x,(cut s)[i]?=some x→w'.cell? ⟨g,i,none⟩=some (S x))∨(Z2b st (cut s)=false∧e=.returned (.slice none 0 0)))
theorem Zfr(w:World)(st:Bool)(s:B)(hs:s.length≤999999):Calls Tryz.prog 174 #[S s,.bool st] w (Zdb w st s):=by
 have HC:=Q0 (Zlm w s hs);have hcl:=Z94 s;obtain⟨l,hl⟩:∃l,l=cut s:=⟨_,rfl⟩;unfold Zdb;rw[←hl]at hcl HC ⊢;have hll:l.length≤1000000:=by omega
 clear hl hs hcl;by_cases h5:l.length≤5
 ·have h5':¬((5:Int)<(l.length:Int)):=by omega
  go_enter Tryz.func174,Tryz.ntmps174
  go_wp2_with fail;refine HC.out.mono ?_
  rintro e w1 ⟨g,cap,rfl,hrow,ho⟩;have HO:=Q0 ho;have HD:=Q0 (rowRd hrow);clear ho hrow;go_wp2_with fail;go_loop [6] (fun i=>∃j:Nat,j≤l.length∧i=.int .i64 j∧Hid (∀k x,k<j→l[k]?=some x→Z1j st x=true)) (fun i=>l.length-(intOf i).toNat)
  case atStart=>exact⟨0,Nat.zero_le _,rfl,Q0 (fun k x h=>absurd h (Nat.not_lt_zero _))⟩
  case round=>
   obtain⟨j,hj,rfl,HB⟩:=hrel;by_cases hlt:j<l.length
   ·have hltz:(j:Int)<(l.length:Int):=by omega
    obtain⟨x,hx⟩:∃x,l[j]?=some x:=⟨_,Q1 hlt⟩;have c1:=HD.out j x hx;have HXX:=Q0 hx;have hn:=Zmo w1 st x;clear hx;cases hq:Z1j st x with
    | true=>
     rw[hq]at hn;have HN:=Q0 hn;have HQ:=Q0 hq;clear hn hq;go_wp2_with fail;refine HN.out.mono ?_;rintro e w' ⟨rfl,rfl⟩;go_wp2_with fail;go_round
     case rel=>exact⟨j+1,by omega,by go_num,Q0 (fun k y hk hy=>by
      rcases Nat.lt_succ_iff_lt_or_eq.1 hk with h'|rfl
      ·exact HB.out k y h' hy
      ·rw[HXX.out]at hy;cases hy;exact HQ.out)⟩
     case measure=>simp[intOf];omega
    | false=>
     rw[hq]at hn;have HN:=Q0 hn;have hbad:Z2b st l=false:=by
      rw[Bool.eq_false_iff];intro h;have:=Zie h x (Q4 HXX.out);rw[hq]at this;cases this
     have HBD:=Q0 hbad;clear hn hq hbad;go_wp2_with fail;refine HN.out.mono ?_;rintro e w' ⟨rfl,rfl⟩;go_wp2_with fail;go_ret;exact⟨HO.out,.inr ⟨HBD.out,rfl⟩⟩
   ·have hltz:¬((j:Int)<(l.length:Int)):=by omega
    have hok:Z2b st l=true:=Zlw h5 fun x hx=>by
     obtain⟨k,hk⟩:=List.getElem?_of_mem hx;exact HB.out k x (by have:=(Q2 hk).1;omega) hk
    have HOK:=Q0 hok;clear hok;go_wp2_with fail;go_ret;exact⟨HO.out,.inl ⟨HOK.out,g,⟨cap,rfl⟩,HD.out⟩⟩
 ·have h5':(5:Int)<(l.length:Int):=by omega
  have hbad:Z2b st l=false:=by
   rw[Bool.eq_false_iff];intro h;exact h5 (Zid h)
  have HBD:=Q0 hbad;clear hbad h5;go_enter Tryz.func174,Tryz.ntmps174;go_wp2_with fail;refine HC.out.mono ?_;rintro e w1 ⟨g,cap,rfl,hrow,ho⟩;have HO:=Q0 ho;clear ho hrow;go_wp2_with fail;go_ret;exact⟨HO.out,.inr ⟨HBD.out,rfl⟩⟩
theorem Z3e(w:World)(s:B)(hs:s.length≤999999):Calls Tryz.prog 104 #[S s] w fun e w'=>e=.returned (.bool (Z0y s))∧Ext w w':=by
 have HP:=Q0 (Zfr w false s hs);obtain⟨r,hr⟩:∃r,r=Z0y s:=⟨_,rfl⟩;rw[←hr];have HR:=Q0 hr;obtain⟨m,hm⟩:∃m,(cut s).length=m+1:=⟨(cut s).length-1,by have:=Zpp s;omega⟩
 have HM:=Q0 hm;have h0:(0:Int)<(m:Int)+1:=by omega
 clear hr hm;go_enter Tryz.func104,Tryz.ntmps104;go_wp2_with fail;refine HP.out.mono ?_;rintro e w' ⟨ho,⟨hok,g,cap,rfl,_⟩|⟨hok,rfl⟩⟩
 ·have HO:=Q0 ho
  have hr:r=true:=HR.out.trans hok
  subst hr;rw[HM.out];clear ho hok;go_wp2_with fail;go_ret;exact⟨rfl,HO.out⟩
 ·have HO:=Q0 ho
  have hr:r=false:=HR.out.trans hok
  subst hr;clear ho hok;go_wp2_with fail;go_ret;exact⟨rfl,HO.out⟩
end Go.Proofs.YtnmhaipjfpongacGreatDoor
