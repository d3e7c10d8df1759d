/- A part of this claim's proof;each theorem bears its own conditions. -/
import Derived.Test.YtnmhaipjfpongacGreatDoorPR18
set_option maxRecDepth 100000
set_option maxHeartbeats 8000000
namespace Go.Proofs.YtnmhaipjfpongacGreatDoor
open Go.ChangeShapes Go.WideShapes Go.ChangeAt Go.RowKit
theorem Zn1:∀args w,(callFunc 166 args).run Tryz.prog w=.ok (.enter 166 args) w:=fun args w=>by kernel_rfl
theorem of1_test(w:World)(r:Rule)(u:Value)(b:Nat)(o:B)(hu:Rd S w u r.ins)(h:w.cell? ⟨b,0,none⟩=some (S o)) :
  Calls Tryz.prog 166 #[AggR r u,.pointer (some ⟨b,0,none⟩)] w (RetE (.bool (r.out==o)) w):=by
 obtain⟨a,cap,rfl,_,_,_⟩:=hu;obtain⟨q,hq⟩:∃q,(r.out==o)=q:=⟨_,rfl⟩;rw[hq];have h1:=fun ob=>(Only.alloc (fun _=>False) w ob).cellOf h (fun h=>h)
 clear h;go_enter Tryz.func166,Tryz.ntmps166;go_wp2_with fail;go_ret;exact⟨rfl,Only.alloc _ _ _⟩
theorem zeroTold:∀w,(zeroValue 155).run Tryz.prog w=.ok (.agg #[S [],.nilIface]) w:=fun w=>by kernel_rfl
theorem Z4x{α:Type}{k s:B}:∀(L:List (B×α)),s≠k→(L.filter fun p=>!(p.1==k)).lookup s=L.lookup s
 | [],_=>rfl
 | (a,x) :: L,h=>by
  by_cases ha:a=k
  ·subst ha
   have hs:(s==a)=false:=Q3 h
   rw[List.filter_cons_of_neg (by simp),Z4x L h,List.lookup,hs]
  ·rw[List.filter_cons_of_pos (by simpa using ha)]
   simp only[List.lookup];rw[Z4x L h]
theorem Knows.more{W:B→Tld}{L:List (B×Tld)}(h:Knows W L){p:B}{x:Tld}(hx:x=W p):Knows W ((p,x) :: L.filter fun q=>!(q.1==p)):=fun q y hq=>by
 by_cases e:q=p
 ·subst e
  rw[List.lookup_cons,beq_self_eq_true]at hq;cases hq;exact hx
 ·have hs:(q==p)=false:=Q3 e
  rw[List.lookup_cons,hs]at hq;simp only at hq;rw[Z4x L e]at hq;exact h q y hq
theorem Z5o.stored{w0 w w':World}{P:Nat→Addr}{ab tb kb:Nat}{lv:Value}{L L':List (B×Tld)}(h:Z5o w0 w P ab tb kb lv L)(ho:Only (fun b=>b=kb) w w')(hm:KMap .string S (tEnc P) w' kb L'):Z5o w0 w' P ab tb kb lv L':=
 ⟨h.ext.trans ho (fun _ _ h=>h) (fun i hi e=>by have:=h.lo;omega),ho.heapOf h.cells (fun e=>h.lo.2.2 e),hm,h.lo⟩
theorem Z6k(tmps:Array Value)(W:World)(h:Nat)(t ev:Value)(h4:tmps[4]?=some (.pointer (some ⟨h,0,none⟩)))(d0:W.cell? ⟨h,0,none⟩=some t)(d1:W.cell? ⟨h,1,none⟩=some ev) :
  (results Tryz.f95 tmps).run Tryz.prog W=.ok (.agg #[t,ev]) W:=by
 simp only[results,Tryz.results95];simp[go_sem,h4,d0,d1]
theorem of_step(w0:World)(P:Nat→Addr)(ab tb tmb kb:Nat)(lv:Value)(l:List Rule)(T:FL)(W:B→Tld)(n:Nat)(D:B→Prop)(rk:B→Nat)(hS:Asks l T W D rk)(hA:Z2s w0 P)(hE:Errs w0 P [5])
  (hl:RdR w0 lv l) (hw:∀r∈l,r.ins.length≤12∧r.word.length≤1000) (ht:Z0u w0 tb tmb T)
  (hof:∀p,D p→rk p<n→∀w L,Z5o w0 w P ab tb kb lv L→Knows W L→Calls Tryz.prog 95 #[.pointer (some ⟨ab,0,none⟩),S p] w (Zhk w0 P ab tb kb lv W (W p) w))
  (p:B) (hp:D p) (hr:rk p<n+1) (w:World) (L:List (B×Tld)) (hL:Z5o w0 w P ab tb kb lv L) (hK:Knows W L) :
  Calls Tryz.prog 95 #[.pointer (some ⟨ab,0,none⟩),S p] w (Zhk w0 P ab tb kb lv W (W p) w):=by
 have HL:=Q0 hL;have HK:=Q0 hK;have HRD:=Q0 hl;have HT:=Q0 ht;have HEE:=Q0 hE;have HCD:=Q0 (hS.code p hp);have HB0:=Q0 ((MapKept.heap_alloc w (.cells #[S p] 9 (0,0))).1);have hx1:Ext w (w.alloc (.cells #[S p] 9 (0,0))):=Only.alloc _ _ _;have hx2:Ext (w.alloc (.cells #[S p] 9 (0,0))) ((w.alloc (.cells #[S p] 9 (0,0))).alloc (.cells #[S [],.nilIface] 155 (0,0))):=Only.alloc _ _ _;have hb:((w.alloc (.cells #[S p] 9 (0,0))).alloc (.cells #[S [],.nilIface] 155 (0,0))).heap[w.heap.size]?=some (.cells #[S p] 9 (0,0)):=hx2.heapOf HB0.out (fun h=>h)
 have ht4:((w.alloc (.cells #[S p] 9 (0,0))).alloc (.cells #[S [],.nilIface] 155 (0,0))).heap[w.heap.size+1]?=some (.cells #[S [],.nilIface] 155 (0,0)):=by
  have h:=(MapKept.heap_alloc (w.alloc (.cells #[S p] 9 (0,0))) (.cells #[S [],.nilIface] 155 (0,0))).1;simpa using h
 have HX0:Hid (Only (fun b=>b=kb) w ((w.alloc (.cells #[S p] 9 (0,0))).alloc (.cells #[S [],.nilIface] 155 (0,0)))):=Q0 ((Only.alloc _ w _).thenAlloc _)
 have HL0:=Q0 (hL.grow (hx1.then hx2));have HLO:Hid (kb<w.heap.size∧ab<w.heap.size∧w0.heap.size≤w.heap.size):=Q0 ⟨hL.map.lt,Z03 hL.cells,hL.ext.size⟩;have hif:=Z65 166 (.pointer (some ⟨w.heap.size,0,none⟩)) (fun x=>x.out==p) ((w.alloc (.cells #[S p] 9 (0,0))).alloc (.cells #[S [],.nilIface] 155 (0,0))) lv l (HRD.out.ext HL0.out.ext) Zn1
  (fun w1 h1 x u' _ hu'=>of1_test w1 x u' w.heap.size p hu' (h1.cellOf ((Z00 hb 0).trans rfl) (fun h=>h)))
 have HIF:=Q0 hif;have HBB:=Q0 hb;have HBT:=Q0 ht4;have hst:=hS.step p hp;obtain⟨X,hX⟩:∃X,X=W p:=⟨_,rfl⟩;rw[←hX];have HX:=Q0 hX;have HWP:=Q0 hst;have HMADE:=Q0 (fun(k:Nat) (r:Rule) (u:Value) (w':World) (L':List (B×Tld)) (hk:l[k]?=some r) (hro:Z2k l p=some r) (hu:Rd S w0 u r.ins) (h1:Z5o w0 w' P ab tb kb lv L') (h2:Knows W L')=>
  made_any w0 P ab tb kb lv W n D rk hS.len hA hof r (fun q hq=>by obtain⟨a,b⟩:=hS.down p hp r hro q hq;exact⟨a,by omega⟩) (hw r (Q4 hk)).1 (hw r (Q4 hk)).2 w' u hu L' h1 h2)
 have c0:=(Z00 HL0.out.cells 0).trans (rfl:_=some (Value.pointer (some ⟨tb,0,none⟩)));have c1:=(Z00 HL0.out.cells 1).trans (rfl:_=some lv);have c2:=(Z00 HL0.out.cells 2).trans (rfl:_=some (Value.map (some kb)));have hmz:=zeroTold;clear hL hK hl ht hE hx1 hx2 hb ht4 hif hst hX hof hw hS hA hr hp;go_enter Tryz.func95,Tryz.ntmps95;go_wp2_with fail;generalize ((w.alloc (.cells #[S p] 9 (0,0))).alloc (.cells #[S [],.nilIface] 155 (0,0)))=wq at HL0 HIF HBB HBT HX0 c0 c1 c2 ⊢;rcases rule_idx (l:=l) (p:=p)with⟨k,r,hk,hlk,hro⟩|⟨hk,hro⟩
 case inr=>
  rw[hk]at HIF;have HXQ:Hid (X=Z7p T p):=Q0 (by rw[HX.out,HWP.out];unfold Z7a;rw[hro])
  clear hk hro HMADE;refine HIF.out.mono ?_;rintro e w3 ⟨rfl,ho⟩;have HB3:=Q0 (ho.heapOf HBB.out (fun h=>h))
  have HT3:=Q0 (ho.heapOf HBT.out (fun h=>h))
  have HL3:=Q0 (HL0.out.grow ho);have HX3:=Q0 (HX0.out.ext ho);have d0:=ho.cellOf c0 (fun h=>h)
  have db:=(Z00 HB3.out 0).trans (rfl:_=some (S p));have hget:=fun n=>Z7b (w3.drewN n) tb tmb T p ((HT.out.ext HL3.out.ext).ext (Only.drewN _ _ n))
  unfold Z7p at HXQ;cases hl:T.lookup p with
  | none=>
   rw[hl]at HXQ;simp only[hl,Option.getD_none,Option.isSome_none]at hget;have HGET:=Q0 hget;clear c0 c1 c2 ho hmz hget hl;go_wp2_with fail;go_quiet ((go_at_call 42;exact Calls.quiet_of_same ((HGET.out _).mono fun _ _ h=>⟨h.1,h.2.symm⟩)))
   have ht4:=(Only.drewN (fun _=>False) w3 nq).heapOf HT3.out (fun h=>h)
   have HL4:=HL3.out.grow (Only.drewN _ w3 nq);have HX4:=HX3.out.ext (Only.drewN _ w3 nq);have c5:=((HEE.out.ext HL3.out.ext).ext (Only.drewN _ w3 nq)).var 5 _ (by decide) rfl
   generalize w3.drewN nq=w4 at ht4 HL4 HX4 c5 ⊢;have s0:=(Z00 ht4 0).trans (rfl:_=some (S []));have s1:=(Z00 ht4 1).trans (rfl:_=some Value.nilIface);have f0:=Z02 ht4 0;have f1:=Z02 ht4 1;have hs0:Only (fun b=>b=w.heap.size+1) w4 ((w4.setCell ⟨w.heap.size+1,0,none⟩ (S [])).setCell ⟨w.heap.size+1,1,none⟩ (errV (P 5))):=(Only.set (p:=fun b=>b=w.heap.size+1) (S []) rfl).then (Only.set (p:=fun b=>b=w.heap.size+1) (errV (P 5)) rfl)
   have hcf:=Z01 (Z01 ht4 0 (S [])) 1 (errV (P 5));have HF0:=Q0 ((Z00 hcf 0).trans (rfl:_=some (S [])));have HF1:=Q0 ((Z00 hcf 1).trans (rfl:_=some (errV (P 5))));have HFA:=Q0 (HL4.later hs0 (fun b e=>by have:=HLO.out;omega))
   have HFO:=Q0 (HX4.trans hs0 (fun _ _ h=>h) (fun i hi e=>by omega))
   clear ht4 HL4 HX4 hs0 hcf;go_wp2_with fail;exact bodyPost_ret (v:=.agg #[S [],errV (P 5)]) (Z6k _ _ (w.heap.size+1) _ _ rfl HF0.out HF1.out) rfl ⟨by rw[HXQ.out];rfl,L,HFA.out,HK.out,HFO.out⟩
  | some x=>
   rw[hl]at HXQ;simp only[hl,Option.getD_some,Option.isSome_some]at hget;have HGET:=Q0 hget;clear c0 c1 c2 ho hmz hget hl;go_wp2_with fail;go_quiet ((go_at_call 42;exact Calls.quiet_of_same ((HGET.out _).mono fun _ _ h=>⟨h.1,h.2.symm⟩)))
   have ht4:=(Only.drewN (fun _=>False) w3 nq).heapOf HT3.out (fun h=>h)
   have HL4:=HL3.out.grow (Only.drewN _ w3 nq);have HX4:=HX3.out.ext (Only.drewN _ w3 nq);generalize w3.drewN nq=w4 at ht4 HL4 HX4 ⊢;have s0:=(Z00 ht4 0).trans (rfl:_=some (S []));have s1:=(Z00 ht4 1).trans (rfl:_=some Value.nilIface);have f0:=Z02 ht4 0;have f1:=Z02 ht4 1;have hs0:Only (fun b=>b=w.heap.size+1) w4 ((w4.setCell ⟨w.heap.size+1,0,none⟩ (S x)).setCell ⟨w.heap.size+1,1,none⟩ .nilIface):=(Only.set (p:=fun b=>b=w.heap.size+1) (S x) rfl).then (Only.set (p:=fun b=>b=w.heap.size+1) .nilIface rfl)
   have hcf:=Z01 (Z01 ht4 0 (S x)) 1 .nilIface;have HF0:=Q0 ((Z00 hcf 0).trans (rfl:_=some (S x)));have HF1:=Q0 ((Z00 hcf 1).trans (rfl:_=some Value.nilIface));have HFA:=Q0 (HL4.later hs0 (fun b e=>by have:=HLO.out;omega))
   have HFO:=Q0 (HX4.trans hs0 (fun _ _ h=>h) (fun i hi e=>by omega))
   clear ht4 HL4 HX4 hs0 hcf;go_wp2_with fail;exact bodyPost_ret (v:=.agg #[S x,.nilIface]) (Z6k _ _ (w.heap.size+1) _ _ rfl HF0.out HF1.out) rfl ⟨by rw[HXQ.out];rfl,L,HFA.out,HK.out,HFO.out⟩
 case inl=>
  rw[hk]at HIF;have HLR:=Q0 hlk;have HRO:=Q0 hro;have hkl:=(Q2 hlk).1;have hk0:¬(k:Int)<0:=by omega
  have hkz:(k:Int)<(l.length:Int):=by omega
  clear hk hlk hro;refine HIF.out.mono ?_;rintro e w3 ⟨rfl,ho⟩;have HB3:=Q0 (ho.heapOf HBB.out (fun h=>h))
  have HT3:=Q0 (ho.heapOf HBT.out (fun h=>h))
  have HL3:=Q0 (HL0.out.grow ho);have HX3:=Q0 (HX0.out.ext ho);have d1:=ho.cellOf c1 (fun h=>h)
  have d2:=ho.cellOf c2 (fun h=>h)
  have db:=(Z00 HB3.out 0).trans (rfl:_=some (S p));clear c0 c1 c2 ho;have hx4:Ext w3 (w3.alloc (.cells #[S [],.nilIface] 155 (0,0))).drew:=(Only.alloc _ w3 _).thenDrew;have db4:=hx4.cellOf db (fun h=>h)
  have d14:=hx4.cellOf d1 (fun h=>h)
  have d24:=hx4.cellOf d2 (fun h=>h)
  have hlk1:=KMap.look (P:=Tryz.prog) Z08 (HL3.out.map.later (Only.drew (fun _=>False) w3) (fun h=>h)) Tryz.underlying151 Tryz.underlying9 (hmz w3.drew) p
  have hlk2:=KMap.look (P:=Tryz.prog) Z08 (HL3.out.map.later hx4 (fun h=>h)) Tryz.underlying151 Tryz.underlying9 (hmz _) p
  cases hl:L.lookup p with
  | none=>
   rw[hl]at hlk1 hlk2;simp only[Option.isSome_none]at hlk1 hlk2;clear hl hmz;go_wp2_with fail;go_region
   all_goals
    have hbz:(w3.alloc (.cells #[S [],.nilIface] 155 (0,0))).drew.heap[w3.heap.size]?=some (.cells #[S [],.nilIface] 155 (0,0)):=(MapKept.heap_alloc w3 (.cells #[S [],.nilIface] 155 (0,0))).1
    have HBZ:=Q0 hbz;have HB4:=Q0 (hx4.heapOf HB3.out (fun h=>h))
    have HT4:=Q0 (hx4.heapOf HT3.out (fun h=>h))
    have HL4:=Q0 (HL3.out.grow hx4);have HX4:=Q0 (HX3.out.ext hx4);have HZZ:Hid (w.heap.size+2≤w3.heap.size):=Q0 (by have:=Z03 HT3.out;omega)
    clear db d1 d2 hlk1 hlk2 hbz;generalize (w3.alloc (.cells #[S [],.nilIface] 155 (0,0))).drew=w4 at HBZ HB4 HT4 HL4 HX4 db4 d14 d24 ⊢;obtain⟨al,cl,rfl,_,_,hcl⟩:=HRD.out;obtain⟨bl,ol,rfl,hcell⟩:=hcl (by intro h;rw[h]at hkl;simp at hkl)
    obtain⟨u,hu,q0,q1,q2,q3⟩:=hcell k r HLR.out;have g0:=HL4.out.ext.cellOf q0 (fun h=>h)
    have g1:=HL4.out.ext.cellOf q1 (fun h=>h)
    have g2:=HL4.out.ext.cellOf q2 (fun h=>h)
    have g3:=HL4.out.ext.cellOf q3 (fun h=>h)
    have HMD:=Q0 (HMADE.out k r u w4 L HLR.out HRO.out hu HL4.out HK.out);have HXM:Hid (X=Z7o W r):=Q0 (by rw[HX.out,HWP.out];unfold Z7a;rw[HRO.out])
    obtain⟨au,cu,rfl,_,_,_⟩:=hu;generalize r.ins.length=ln at *;clear hcl hcell q0 q1 q2 q3 hx4 hkl;go_wp2_with fail;refine HMD.out.mono ?_;rintro e w5 ⟨rfl,L5,hl5,hk5,ho5⟩;rw[←HXM.out];have HB5:=Q0 (ho5.heapOf HB4.out (fun e=>by have:=HLO.out;omega))
    have HT5:=Q0 (ho5.heapOf HT4.out (fun e=>by have:=HLO.out;omega))
    have HZ5:=ho5.heapOf HBZ.out (fun e=>by have:=HLO.out;have:=HZZ.out;omega)
    have HX5:=Q0 (HX4.out.then ho5);have HK5:=Q0 hk5;have HL5:=Q0 hl5;have s0:=(Z00 HZ5 0).trans (rfl:_=some (S []));have s1:=(Z00 HZ5 1).trans (rfl:_=some Value.nilIface);have f0:=Z02 HZ5 0;have f1:=Z02 HZ5 1;obtain⟨ev,hev⟩:∃ev,ev=errC P X.2:=⟨_,rfl⟩;have hte:tEnc P X=.agg #[S X.1,ev]:=by rw[hev]
    have hs6:Only (fun b=>b=w3.heap.size) w5 ((w5.setCell ⟨w3.heap.size,0,none⟩ (S X.1)).setCell ⟨w3.heap.size,1,none⟩ ev):=(Only.set (p:=fun b=>b=w3.heap.size) (S X.1) rfl).then (Only.set (p:=fun b=>b=w3.heap.size) ev rfl)
    have hz6:=Z01 (Z01 HZ5 0 (S X.1)) 1 ev;have ha6:=hl5.later hs6 (fun b e=>by have:=HLO.out;have:=HZZ.out;omega)
    obtain⟨w7,hrun,hm7,ho7,hsz7⟩:=KMap.store (P:=Tryz.prog) Z08 (ha6.map.later (Only.drew (fun _=>False) _) (fun h=>h)) Tryz.underlying151 Tryz.underlying9 p X
    have ho7':Only (fun b=>b=kb) ((w5.setCell ⟨w3.heap.size,0,none⟩ (S X.1)).setCell ⟨w3.heap.size,1,none⟩ ev) w7:=(Only.drew _ _).then ho7
    have HA7:=Q0 (ha6.stored ho7' hm7);have HK7:=Q0 (HK5.out.more HX.out);have HB6:=hs6.heapOf HB5.out (fun e=>by have:=HZZ.out;omega)
    have hz7:=ho7'.heapOf hz6 (fun e=>by have:=HLO.out;have:=HZZ.out;omega)
    have ht7:=ho7'.heapOf (hs6.heapOf HT5.out (fun e=>by have:=HZZ.out;omega)) (fun e=>by have:=HLO.out;omega)
    have HX7:=Q0 ((HX5.out.trans hs6 (fun _ _ h=>h) (fun i hi e=>by have:=HZZ.out;omega)).then ho7')
    have m0:=(Z00 ((Only.drew (fun _=>False) _).heapOf ha6.cells (fun h=>h)) 2).trans (rfl:_=some (Value.map (some kb)))
    have m1:=(Z00 ((Only.drew (fun _=>False) _).heapOf HB6 (fun h=>h)) 0).trans (rfl:_=some (S p))
    have m2:=(Z00 ((Only.drew (fun _=>False) _).heapOf hz6 (fun h=>h)) 0).trans (rfl:_=some (S X.1))
    have m3:=(Z00 ((Only.drew (fun _=>False) _).heapOf hz6 (fun h=>h)) 1).trans (rfl:_=some ev)
    have n2:=(Z00 hz7 0).trans (rfl:_=some (S X.1));have n3:=(Z00 hz7 1).trans (rfl:_=some ev);have v0:=(Z00 ht7 0).trans (rfl:_=some (S []));have v1:=(Z00 ht7 1).trans (rfl:_=some Value.nilIface);have z0:=Z02 ht7 0;have z1:=Z02 ht7 1;have hs8:Only (fun b=>b=w.heap.size+1) w7 ((w7.setCell ⟨w.heap.size+1,0,none⟩ (S X.1)).setCell ⟨w.heap.size+1,1,none⟩ ev):=(Only.set (p:=fun b=>b=w.heap.size+1) (S X.1) rfl).then (Only.set (p:=fun b=>b=w.heap.size+1) ev rfl)
    have hcf:=Z01 (Z01 ht7 0 (S X.1)) 1 ev;have HF0:=Q0 ((Z00 hcf 0).trans (rfl:_=some (S X.1)));have HF1:=Q0 ((Z00 hcf 1).trans (rfl:_=some ev));have HFA:=Q0 (HA7.out.later hs8 (fun b e=>by have:=HLO.out;omega))
    have HFO:=Q0 (HX7.out.trans hs8 (fun _ _ h=>h) (fun i hi e=>by omega))
    have HTE:=Q0 hte;rw[hte]at hrun;rw[hte];have hform:ev=.nilIface∨∃c,ev=errV (P c):=by
     rw[hev];cases X.2 with
     | zero=>exact .inl rfl
     | succ c=>exact .inr ⟨c,rfl⟩
    clear hl5 hk5 ho5 HZ5 hev hte hs6 hz6 ha6 hm7 ho7 hsz7 ho7' HB6 hz7 ht7 hs8 hcf;rcases hform with rfl|⟨c,rfl⟩
    all_goals
     go_wp2_with fail;go_region
     all_goals
      go_wp2_with fail;exact bodyPost_ret (v:=.agg #[S X.1,_]) (Z6k _ _ (w.heap.size+1) _ _ rfl HF0.out HF1.out) rfl ⟨by rw[HTE.out],_,HFA.out,HK7.out,HFO.out⟩
  | some x=>
   have hxe:x=X:=by rw[HK.out p x hl,←HX.out]
   obtain⟨ev,hev⟩:∃ev,ev=errC P X.2:=⟨_,rfl⟩;have hte:tEnc P X=.agg #[S X.1,ev]:=by rw[hev]
   rw[hl]at hlk1 hlk2;simp only[Option.isSome_some]at hlk1 hlk2;rw[hxe,hte]at hlk1 hlk2;have HTE:=Q0 hte;have hx5:Ext w3 (w3.alloc (.cells #[S X.1,ev] 155 (0,0))).drew:=(Only.alloc _ w3 _).thenDrew;have hz7:(w3.alloc (.cells #[S X.1,ev] 155 (0,0))).drew.heap[w3.heap.size]?=some (.cells #[S X.1,ev] 155 (0,0)):=(MapKept.heap_alloc w3 (.cells #[S X.1,ev] 155 (0,0))).1;have ht7:=hx5.heapOf HT3.out (fun h=>h)
   have HA7:=Q0 (HL3.out.grow hx5);have HX7:=Q0 (HX3.out.ext hx5);have n2:=(Z00 hz7 0).trans (rfl:_=some (S X.1));have n3:=(Z00 hz7 1).trans (rfl:_=some ev);have v0:=(Z00 ht7 0).trans (rfl:_=some (S []));have v1:=(Z00 ht7 1).trans (rfl:_=some Value.nilIface);have z0:=Z02 ht7 0;have z1:=Z02 ht7 1;have n2':(w3.alloc (.cells #[S X.1,ev] 155 (0,0))).cell? ⟨w3.heap.size,0,none⟩=_:=n2;have n3':(w3.alloc (.cells #[S X.1,ev] 155 (0,0))).cell? ⟨w3.heap.size,1,none⟩=_:=n3;have v0':(w3.alloc (.cells #[S X.1,ev] 155 (0,0))).cell? ⟨w.heap.size+1,0,none⟩=_:=v0;have v1':(w3.alloc (.cells #[S X.1,ev] 155 (0,0))).cell? ⟨w.heap.size+1,1,none⟩=_:=v1;have z0':(w3.alloc (.cells #[S X.1,ev] 155 (0,0))).frozen? ⟨w.heap.size+1,0,none⟩=_:=z0;have z1':(w3.alloc (.cells #[S X.1,ev] 155 (0,0))).frozen? ⟨w.heap.size+1,1,none⟩=_:=z1;have hs8:Only (fun b=>b=w.heap.size+1) (w3.alloc (.cells #[S X.1,ev] 155 (0,0))).drew (((w3.alloc (.cells #[S X.1,ev] 155 (0,0))).drew.setCell ⟨w.heap.size+1,0,none⟩ (S X.1)).setCell ⟨w.heap.size+1,1,none⟩ ev):=(Only.set (p:=fun b=>b=w.heap.size+1) (S X.1) rfl).then (Only.set (p:=fun b=>b=w.heap.size+1) ev rfl)
   have hcf:=Z01 (Z01 ht7 0 (S X.1)) 1 ev;have HF0:=Q0 ((Z00 hcf 0).trans (rfl:_=some (S X.1)));have HF1:=Q0 ((Z00 hcf 1).trans (rfl:_=some ev));have HFA:=Q0 (HA7.out.later hs8 (fun b e=>by have:=HLO.out;omega))
   have HFO:=Q0 (HX7.out.trans hs8 (fun _ _ h=>h) (fun i hi e=>by omega))
   have hform:ev=.nilIface∨∃c,ev=errV (P c):=by
    rw[hev];cases X.2 with
    | zero=>exact .inl rfl
    | succ c=>exact .inr ⟨c,rfl⟩
   clear hl hmz hxe hev hte hx5 hz7 ht7 hs8 hcf;rcases hform with rfl|⟨c,rfl⟩
   all_goals
    go_wp2_with fail;go_region
    all_goals
     go_wp2_with fail;exact bodyPost_ret (v:=.agg #[S X.1,_]) (Z6k _ _ (w.heap.size+1) _ _ rfl HF0.out HF1.out) rfl ⟨by rw[HTE.out],_,HFA.out,HK.out,HFO.out⟩
theorem of_any(w0:World)(P:Nat→Addr)(ab tb tmb kb:Nat)(lv:Value)(l:List Rule)(T:FL)(W:B→Tld)(D:B→Prop)(rk:B→Nat)(hS:Asks l T W D rk)(hA:Z2s w0 P)(hE:Errs w0 P [5])
  (hl:RdR w0 lv l) (hw:∀r∈l,r.ins.length≤12∧r.word.length≤1000) (ht:Z0u w0 tb tmb T) :
  ∀(n:Nat)(p:B),D p→rk p<n→∀w L,Z5o w0 w P ab tb kb lv L→Knows W L→Calls Tryz.prog 95 #[.pointer (some ⟨ab,0,none⟩),S p] w (Zhk w0 P ab tb kb lv W (W p) w)
 | 0,_,_,h=>by omega
 | n+1,p,hp,hr=>fun w L h1 h2=>of_step w0 P ab tb tmb kb lv l T W n D rk hS hA hE hl hw ht (fun q hq hrq=>of_any w0 P ab tb tmb kb lv l T W D rk hS hA hE hl hw ht n q hq hrq) p hp hr w L h1 h2
theorem Z25.errC(w:World)(P:Nat→Addr)(c:Nat):Z25 w P (c,-1) (errC P c):=by
 cases c with
 | zero=>exact Z25.nil _ _ _
 | succ c=>exact .inr (.inl ⟨by simp,rfl,rfl⟩)
def RetWant(P:Nat→Addr)(x:B×(Nat×Int))(w:World)(e:Ending)(w':World):Prop:=∃ev,e=.returned (.tuple #[S x.1,ev])∧Z25 w' P x.2 ev∧Ext w w'
theorem need_one{l:List Rule}{out:B}(h:Z34 l)(_hm:Z35 l out=true){k:Nat}(hk:l.findIdx? (fun r=>r.out==out)=some k):k∈Z2f l [out]:=by
 obtain⟨r,h1,h2,_⟩:=Z56 hk;refine Z3q.2 ⟨(Q2 h1).1,.root ?_⟩;unfold Z5p;rw[List.map_cons,List.map_nil,←h2,Ze3 h.2.2 h1];exact .head _
theorem lit_rd(w:World)(out:B):Rd S (w.alloc (.cells #[S out] 9 (0,0))) (.slice (some ⟨w.heap.size,0,none⟩) 1 1) [out]:=
 ⟨_,1,rfl,Nat.le_refl _,by decide,fun _=>⟨_,0,rfl,fun i x hx=>by
  have hz:=(MapKept.heap_alloc w (.cells #[S out] 9 (0,0))).1
  obtain⟨rfl,hx2⟩:i=0∧x=out:=by
   rcases i with _|i
   ·simp at hx;exact⟨rfl,hx.symm⟩
   ·simp at hx
  subst hx2;exact Z00 hz 0⟩⟩
theorem Zl8(w:World)(P:Nat→Addr)(tb tmb:Nat)(T:FL)(v:Value)(l:List Rule)(out:B)(ht:Z0u w tb tmb T)(hT:∀p s,T.lookup p=some s→s.length≤2000)(hv:RdR w v l)(hs:∀r∈l,Z3z 900000 r)(hw:∀r∈l,r.ins.length≤12∧r.word.length≤1000)(hV:PV w P [1,2,3,4,5,6,8,9]) :
  Calls Tryz.prog 18 #[.pointer (some ⟨tb,0,none⟩),v,S out] w (RetWant P (Za7 l T out) w):=by
 have HSH:=Q0 (Zah w P l v hv hs (hV.sub (by decide)))
 have HRD:=Q0 hv;have HVV:=Q0 hV;have HT:=Q0 ht;have HTB:=Q0 hT;have HSM:=Q0 hs;have HW:=Q0 hw;obtain⟨a,cap,rfl,_,_,_⟩:=hv;obtain⟨X,hX⟩:∃X,X=Za7 l T out:=⟨_,rfl⟩;rw[←hX];unfold Za7 at hX;clear ht hT hs hw hV;by_cases h0:(Z04 l).1=0
 ·rw[if_neg (by simpa using h0)]at hX
  have HR:=Q0 (Z2e.1 h0);have HN0:=Q0 h0;have HX:=Q0 hX;clear h0 hX;go_enter Tryz.func18,Tryz.ntmps18;go_wp2_with fail;refine HSH.out.mono ?_;rintro e w1 ⟨ev,rfl,he,ho⟩;obtain rfl:=he.zero HN0.out;have HX1:=Q0 ho;have HND:=Q0 (Z76 (w1.alloc (.cells #[S out] 9 (0,0))) P l [out] (.slice a l.length cap) (.slice (some ⟨w1.heap.size,0,none⟩) 1 1) (HRD.out.ext (ho.thenAlloc _)) (lit_rd w1 out) (by simp) HSM.out ((HVV.out.ext (ho.thenAlloc _)).sub (by decide)))
  clear he ho;go_wp2_with fail;refine HND.out.mono ?_;rintro e w2 ⟨v2,ev,sm,rfl,hrow,he,ho,hcase⟩;have HX2:=Q0 ((HX1.out.thenAlloc _).then ho);have hnf:Z0e l [out]=if Z35 l out=true then(0,-1)else(6,0):=by
   unfold Z0e;rw[if_neg (by rw[HN0.out];simp)]
   unfold Z57;cases hm:Z35 l out <;> simp[List.findIdx?_cons,hm]
  cases hm:Z35 l out with
  | false=>
   rw[hm]at hnf;have hX:=HX.out;rw[if_pos hm]at hX;subst hX;rw[if_neg (by decide)]at hnf
   obtain⟨t,p,rfl⟩:=he.some (by rw[hnf];decide)
   obtain⟨a2,c2,rfl,_,_,_⟩:=hrow.rd;have c0:=(HVV.out.errs.ext HX2.out).var 5 _ (by decide) rfl
   clear hrow he ho hcase hnf hm HX;go_wp2_with fail;go_quiet (fail);go_wp2_with fail;go_ret2;exact⟨_,rfl,.inr (.inl ⟨by decide,rfl,rfl⟩),HX2.out.thenDrewN _⟩
  | true=>
   rw[hm,if_pos rfl]at hnf;have hX:=HX.out;rw[if_neg (by rw[hm];decide)]at hX
   have hsm:sm=Z2f l [out]:=by
    rcases hcase with⟨h,_⟩|⟨_,h⟩
    ·rw[hnf]at h;exact absurd rfl h
    ·exact Zga h
   obtain rfl:=he.zero (by rw[hnf])
   have HMD:=Q0 hm;have HROW:=Q0 hrow;have HSMQ:=Q0 hsm;have HPT:=Q0 (Z88 w2 P l (.slice a l.length cap) v2 sm (HRD.out.ext HX2.out) HR.out (fun r hr=>(HSM.out r hr).many) hrow.rd ((HVV.out.ext HX2.out).errs.sub (by decide)))
   rw[←hsm]at hX;have HX:=Q0 hX;obtain⟨a2,c2,rfl,_,_,_⟩:=hrow.rd;clear hrow he ho hcase hnf hm hsm hX;go_wp2_with fail;refine HPT.out.mono ?_;rintro e w3 ⟨v3,ev,rfl,hrow,he,ho⟩;have HX3:=Q0 (HX2.out.then ho);have HEE:=Q0 he;obtain⟨a3,c3,rfl,_,_,_⟩:=hrow.rd;clear hrow he ho;cases hp:Z7v l sm with
   | none=>
    have hX:=HX.out;rw[hp]at hX;have hX2:X=([],(9,-1)):=hX;subst hX2;have hf:Z1c l sm=(9,-1):=by unfold Z1c;rw[hp];rfl
    rw[hf]at HEE;obtain⟨t,p,rfl⟩:=HEE.out.some (by decide)
    clear hX hf hp HX;go_wp2_with fail;go_ret2;exact⟨_,rfl,HEE.out,HX3.out⟩
   | some o=>
    have hX:=HX.out;rw[hp]at hX;have hX2:X=((Z3t l T out).1,((Z3t l T out).2,-1)):=hX;subst hX2;have hf:Z1c l sm=(0,-1):=by unfold Z1c;rw[hp];rfl
    rw[hf]at HEE;obtain rfl:=HEE.out.zero rfl;obtain⟨r1,r2⟩:=Z3p (Z1v hp).1;have hin:InO l o out:=fun k hk=>by
     have h1:=need_one HR.out HMD.out hk;exact Z2v hp (Z3q.1 h1).1 (by rw[HSMQ.out];simpa using h1)
    have hmm:=@run_makeMap Tryz.prog;have HOF:=Q0 (fun(w5:World) (ab kb:Nat) (L:List (B×Tld)) (h1:Z5o w3 w5 P ab tb kb (.slice a l.length cap) L) (h2:Knows (Z3t l T) L)=>
     of_any w3 P ab tb tmb kb (.slice a l.length cap) l T (Z3t l T) (InO l o) (Zdq l o) (Zbr r1 r2 HTB.out) ((HVV.out.ext HX3.out).act (by decide)) ((HVV.out.ext HX3.out).errs.sub (by decide)) (HRD.out.ext HX3.out) HW.out (HT.out.ext HX3.out) (l.length+1) out hin (Nat.lt_succ_of_le (r2 out hin)) w5 L h1 h2)
    have HAS:Hid (Z5o w3 ((w3.alloc (.map #[] 0)).alloc (.cells #[.pointer (some ⟨tb,0,none⟩),.slice a l.length cap,.map (some w3.heap.size)] 153 (0,0))) P (w3.heap.size+1) tb w3.heap.size (.slice a l.length cap) []):=Q0 (by
     refine⟨(Only.alloc _ _ _).thenAlloc _,?_,(KMap.made w3 .string S (tEnc P)).later (Only.alloc (fun _=>False) _ _) (fun h=>h),⟨Nat.le_succ _,Nat.le_refl _,Nat.succ_ne_self _⟩⟩
     simpa using (MapKept.heap_alloc (w3.alloc (.map #[] 0)) (.cells #[.pointer (some ⟨tb,0,none⟩),.slice a l.length cap,.map (some w3.heap.size)] 153 (0,0))).1)
    have HCL:=Q0 (HOF.out _ _ _ _ HAS.out (fun p x h=>by cases h))
    generalize Z3t l T out=Y at *;obtain⟨y1,y2⟩:=Y;clear hX hf hp HX r1 r2 hin HOF;go_wp2_with fail;refine HCL.out.mono ?_;rintro e w6 ⟨rfl,L6,ha6,hk6,ho6⟩;have HX6:=Q0 (HX3.out.then ha6.ext);obtain⟨ev,hev⟩:∃ev,ev=errC P y2:=⟨_,rfl⟩;have hte:tEnc P (y1,y2)=.agg #[S y1,ev]:=by rw[hev]
    have HEV:=Q0 (fun w:World=>by have h:=Z25.errC w P y2;rw[←hev]at h;exact h)
    have hz7:(w6.alloc (.cells #[S y1,ev] 155 (0,0))).heap[w6.heap.size]?=some (.cells #[S y1,ev] 155 (0,0)):=(MapKept.heap_alloc w6 (.cells #[S y1,ev] 155 (0,0))).1
    have n0:(w6.alloc (.cells #[S y1,ev] 155 (0,0))).cell? ⟨w6.heap.size,0,none⟩=some (S y1):=(Z00 hz7 0).trans rfl
    have n1:(w6.alloc (.cells #[S y1,ev] 155 (0,0))).cell? ⟨w6.heap.size,1,none⟩=some ev:=(Z00 hz7 1).trans rfl
    rw[hte];have hform:ev=.nilIface∨∃c,ev=errV (P c):=by
     rw[hev];cases y2 with
     | zero=>exact .inl rfl
     | succ c=>exact .inr ⟨c,rfl⟩
    have HX7:=Q0 (HX6.out.thenAlloc (.cells #[S y1,ev] 155 (0,0)));clear hz7 hev hte ha6 hk6 ho6;rcases hform with rfl|⟨c,rfl⟩
    all_goals
     go_wp2_with fail;go_quiet (fail)
     go_wp2_with fail;go_ret2
     exact⟨_,rfl,HEV.out _,HX7.out.thenDrewN _⟩
 ·have hX2:X=([],Z04 l):=by rw[if_pos h0]at hX;exact hX
  subst hX2;have HN0:=Q0 h0;clear hX h0;go_enter Tryz.func18,Tryz.ntmps18;go_wp2_with fail;refine HSH.out.mono ?_;rintro e w1 ⟨ev,rfl,he,ho⟩;obtain⟨t,p,rfl⟩:=he.some HN0.out;have HX1:=Q0 ho;have HEE:=Q0 he;clear he ho;go_wp2_with fail;go_ret2;exact⟨_,rfl,HEE.out,HX1.out⟩
end Go.Proofs.YtnmhaipjfpongacGreatDoor
