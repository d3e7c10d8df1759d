/- A part of this claim's proof;each theorem bears its own conditions. -/
import Derived.Test.YtnmhaipjfpongacGreatDoorPR34
import Derived.Test.YtnmhaipjfpongacGreatDoorPR31
import Derived.DataShut
set_option maxRecDepth 100000
set_option maxHeartbeats 4000000
namespace Go.Proofs.YtnmhaipjfpongacGreatDoor
open Go.ChangeShapes Go.WideShapes Go.ChangeAt Go.RowKit
structure Zl4{σ:Type}(A:List (Nat×Obj)→World→σ→Prop)(bs:σ→BS)(step:σ→Nat→σ)(P:Nat→Addr)(base:Nat)(E:BE)(K:BK):Prop where
 bld:∀X w x,A X w x→Z0c w P base E K (bs x)∧BInv E (bs x)
 ext:∀X w x w',A X w x→Ext w w'→A X w' x
 add:∀X w x w' ob,A X w x→Ext w w'→w'.heap[w.heap.size]?=some ob→A ((w.heap.size,ob) :: X) w' x
 kept:∀X w x,A X w x→∀y∈X,w.heap[y.1]?=some y.2
 drop:∀y X w x w',A (y :: X) w x→Only (fun i=>i=y.1) w w'→(∀z∈X,z.1≠y.1)→A X w' x
 run:∀X w x,A X w x→∀i∈E.sm,Z0n E (bs x) i=true→Calls Tryz.prog 56 #[PTR K.b,IN i] w (fun e w'=>∃b,e=.returned (.tuple #[.bool b,.nilIface])∧A X w' (step x i))
 ran:∀x i,i∈E.sm→Z0n E (bs x) i=true→∀k,ranP (bs (step x i)) k=(decide (k=i) || ranP (bs x) k)
inductive Z59 {σ:Type} (E:BE) (bs:σ→BS) (step:σ→Nat→σ):σ→σ→Prop
 | stop {x:σ}:Z37 E (bs x)=[]→Z59 E bs step x x
 | more {x y:σ} {i:Nat} {R:List Nat}:Z37 E (bs x)=i :: R→Z59 E bs step (step x i) y→Z59 E bs step x y
def AllPost{σ:Type}(A:List (Nat×Obj)→World→σ→Prop)(bs:σ→BS)(step:σ→Nat→σ)(E:BE)(X:List (Nat×Obj))(x0:σ)(e:Ending)(w':World):Prop:=∃x,e=.returned (.agg (cntV (bs x) E.sm))∧A X w' x∧(∀i∈E.sm,(bs x).st i≠1)∧Z59 E bs step x0 x
theorem Zhd{σ:Type}(A:List (Nat×Obj)→World→σ→Prop)(bs:σ→BS)(step:σ→Nat→σ)(P:Nat→Addr)(base:Nat)(E:BE)(K:BK)(o:List Nat)(is:Nat→Bool)(X:List (Nat×Obj))(w:World)(x0:σ)(hA:Zl4 A bs step P base E K)(h:A X w x0)(hW:Z0w E o is)(hL:Z3i E) :
  Calls Tryz.prog 59 #[PTR K.b] w (AllPost A bs step E X x0):=by
 have HA:=Q0 hA;have HW:=Q0 hW;have HL:=Q0 hL;have HXN:Hid (∀z∈X,z.1≠w.heap.size):=Q0 (fun z hz e=>by
  have h1:=(Array.getElem?_eq_some_iff.1 (hA.kept X w x0 h z hz)).1;omega)
 have h1:=hA.add X w x0 (w.alloc (.cells #[.int .i64 0,.int .i64 0,.int .i64 0,.int .i64 0] 70 (0,0))) (.cells #[.int .i64 0,.int .i64 0,.int .i64 0,.int .i64 0] 70 (0,0)) h (Only.alloc _ _ _) (MapKept.heap_alloc w _).1;have HRL:=Q0 (Zcl (hA.bld _ _ x0 h1).1 hW hL.many hL.few);have H0:=Q0 h1;clear hA h hW hL h1;go_enter Tryz.func59,Tryz.ntmps59;go_wp2_with fail;refine HRL.out.mono ?_;rintro e w1 ⟨v1,rfl,hr1,ho1⟩;have HR1:Hid (Rd IN w1 v1 (Z37 E (bs x0))):=Q0 hr1.rd;have HA1:=Q0 (HA.out.ext _ _ _ _ H0.out ho1);clear hr1 ho1 HRL H0;go_wp2_with fail;go_loopg [3] (E.sm.length-ranN E (bs x0)) (fun g v wr=>∃(x:σ)(qv:Value),qv=v∧E.sm.length-ranN E (bs x)=g∧Hid (A ((w.heap.size,(.cells #[.int .i64 0,.int .i64 0,.int .i64 0,.int .i64 0] 70 (0,0))) :: X) wr x)∧Hid (Rd IN wr qv (Z37 E (bs x)))∧Hid (∀y,Z59 E bs step x y→Z59 E bs step x0 y))
 case atStart=>exact⟨x0,_,rfl,rfl,HA1,HR1,Q0 (fun _ h=>h)⟩
 case round=>
  clear HA1 HR1;obtain⟨x,qv,rfl,hg,HA1,HR1,HTO⟩:=hrel;have HG:=Q0 hg;clear hg;obtain⟨R,hR⟩:∃R,R=Z37 E (bs x):=⟨_,rfl⟩;rw[←hR]at HR1;have HRQ:=Q0 hR;clear hR;obtain⟨a,c,rfl,_,_,hc⟩:=HR1.out;rcases R with _|⟨i,R⟩
  ·have hov:=HW.out.over (HA.out.bld _ _ _ HA1.out).2 (fun i hi=>by
    cases hr:Z0n E (bs x) i with
    | false=>rfl
    | true=>
     have:i∈Z37 E (bs x):=List.mem_filter.2 ⟨hi,hr⟩
     rw[←HRQ.out]at this;cases this)
   have HOV:=Q0 hov;have HEND:=Q0 (HTO.out x (.stop HRQ.out.symm));have HCN:=Q0 (Zn5 wr P base E K (bs x) (HA.out.bld _ _ _ HA1.out).1 HW.out.rise HL.out.few (HA.out.bld _ _ _ HA1.out).2);have hlz:¬(0:Int)<(([]:List Nat).length:Int):=by simp
   clear hc hov;go_wp2_with fail;refine HCN.out.mono ?_;rintro e w5 ⟨rfl,ho5⟩;have ha5:=HA.out.ext _ _ _ _ HA1.out ho5;have hrc:=HA.out.kept _ _ _ ha5 _ (.head _);have HRC:=Q0 hrc;have f0:=Z02 hrc 0;have f1:=Z02 hrc 1;have f2:=Z02 hrc 2;have f3:=Z02 hrc 3;have r0:=(Z00 hrc 0).trans (rfl:_=some (Value.int .i64 0));have r1:=(Z00 hrc 1).trans (rfl:_=some (Value.int .i64 0));have r2:=(Z00 hrc 2).trans (rfl:_=some (Value.int .i64 0));have r3:=(Z00 hrc 3).trans (rfl:_=some (Value.int .i64 0));have HA5:=Q0 ha5;clear ho5 hrc ha5 HCN;go_wp2_with fail;refine bodyPost_ret (v:=.agg (cntV (bs x) E.sm)) ?_ rfl ⟨x,rfl,HA.out.drop (w.heap.size,(.cells #[.int .i64 0,.int .i64 0,.int .i64 0,.int .i64 0] 70 (0,0))) X _ _ _ HA5.out ((((Only.set (p:=fun i=>i=w.heap.size) _ rfl).then (Only.set (p:=fun i=>i=w.heap.size) _ rfl)).then (Only.set (p:=fun i=>i=w.heap.size) _ rfl)).then (Only.set (p:=fun i=>i=w.heap.size) _ rfl)) HXN.out,HOV.out,HEND.out⟩
   have hres:Tryz.f59.results = #[.cell 2 70]:=by kernel_rfl
   have h1:=Z01 HRC.out 0 (IN (E.sm.countP (cRan (bs x))));have h2:=Z01 h1 1 (IN (E.sm.countP (cHit (bs x))));have h3:=Z01 h2 2 (IN (E.sm.countP (Zn9 (bs x))));have h4:=Z01 h3 3 (IN (E.sm.countP (Zn8 (bs x))));have e0:=(Z00 h4 0).trans (rfl:_=some (IN (E.sm.countP (cRan (bs x)))));have e1:=(Z00 h4 1).trans (rfl:_=some (IN (E.sm.countP (cHit (bs x)))));have e2:=(Z00 h4 2).trans (rfl:_=some (IN (E.sm.countP (Zn9 (bs x)))));have e3:=(Z00 h4 3).trans (rfl:_=some (IN (E.sm.countP (Zn8 (bs x)))));clear h1 h2 h3 h4 f0 f1 f2 f3 r0 r1 r2 r3;simp only[results,hres];go_simp
  ·obtain⟨b,off,rfl,hcell⟩:=hc (by simp)
   have d0:=hcell 0 i rfl;rw[Nat.add_zero]at d0;have hri:i∈Z37 E (bs x):=by rw[←HRQ.out];exact .head _
   obtain⟨him,hrp⟩:=List.mem_filter.1 hri;have HRUN:=Q0 (HA.out.run _ wr x HA1.out i him hrp);have hme:E.sm.length-ranN E (bs (step x i))<E.sm.length-ranN E (bs x):=by
    have h1:=Zft HW.out.nodup him (Z7u hrp) (HA.out.ran x i him hrp);have h2:=Zi9 E (bs (step x i));omega
   have HME:=Q0 hme;have HTO2:Hid (∀y,Z59 E bs step (step x i) y→Z59 E bs step x0 y):=Q0 (fun y hy=>HTO.out y (.more HRQ.out.symm hy))
   have hlz:(0:Int)<((i :: R).length:Int):=by simp
   clear hcell hri him hrp hme;go_wp2_with fail;refine HRUN.out.mono ?_;rintro e w5 ⟨bb,rfl,hA5⟩;have HA5:=Q0 hA5;have HRL:=Q0 (Zcl (HA.out.bld _ _ _ hA5).1 HW.out HL.out.many HL.out.few);clear hA5 HRUN d0;go_wp2_with fail;refine HRL.out.mono ?_;rintro e w6 ⟨v6,rfl,hr6,ho6⟩;have HR6:Hid (Rd IN w6 v6 (Z37 E (bs (step x i)))):=Q0 hr6.rd;have HA6:=Q0 (HA.out.ext _ _ _ _ HA5.out ho6);clear hr6 ho6;go_wp2_with fail;go_roundg (E.sm.length-ranN E (bs (step x i)))
   case measure=>rw[←HG.out];exact HME.out
   case rel=>exact⟨step x i,_,rfl,rfl,HA6,HR6,HTO2⟩
noncomputable def Zbp(E:BE)(many:Nat)(L:FL)(s:BS)(z:Int):FL:=match (runZ E (some (many,L)) s z).2.2 with
 | some (_,L')=>L'
 | none=>L
theorem Zhy(E:BE)(many:Nat)(L:FL)(s:BS)(z:Int):(runZ E (some (many,L)) s z).2.2=some (many,Zbp E many L s z):=by
 have h:∃L',(runZ E (some (many,L)) s z).2.2=some (many,L'):=by
  unfold runZ runP;split
  ·split
   ·exact⟨_,rfl⟩
   ·split
    ·exact⟨_,rfl⟩
    ·split
     ·exact⟨_,rfl⟩
     ·split
      ·exact⟨_,rfl⟩
      ·simp only
       split <;> exact⟨_,rfl⟩
  ·exact⟨_,rfl⟩
 obtain⟨L',h⟩:=h;unfold Zbp;rw[h]
section
variable {w w':World}{P:Nat→Addr}{base:Nat}{E:BE}{K:BK}{s:BS}{o:List Nat}{is:Nat→Bool}{cb cmb:Nat}{sv:Value}{many:Nat}{L:FL}
theorem runC_any(h:Z0c w P base E K s)(hc:K.cp=PTR cb)(hC:Z6f w E K cb cmb sv many L)(hW:Z0w E o is)(hI:BInv E s)(hL:Z3i E){w0:World}(hx0:Ext w0 w)(hlo:∀j,Z0x E K j∨Z0g cb cmb sv j→w0.heap.size≤j)(hV:PV w0 P [2,4,5,9,10,11])(z:Int) :
  Calls Tryz.prog 56 #[PTR K.b,I z] w (Z8n w P base E K cb cmb sv many (Zbp E many L s z) (runZ E (some (many,L)) s z).1 (runZ E (some (many,L)) s z).2.1):=by
 have hVw:=hV.ext hx0;by_cases hz:∃i:Nat,z=(i:Int)∧i∈E.sm
 ·obtain⟨i,rfl,hi⟩:=hz
  unfold Zbp;rw[Z7d hi];by_cases h1:s.st i=1
  ·cases hr:Z0n E s i with
   | false=>
    have e:runP E (some (many,L)) s i=((false,11),s,some (many,L)):=by
     unfold runP;rw[if_neg (by simpa using hi),if_neg (by simpa using h1),if_pos hr]
    rw[e];exact(Zjv h hW hL (hVw.errs.sub (by decide)) hi h1 hr).mono fun _ _ h=>h.cache hC
   | true=>
    have e:runP E (some (many,L)) s i=if (E.ans i).2≠0 then((false,0),Z1w E s i,some (many,L))else match L.lookup (E.key i)with
      | some _=>((true,0),Z1l s i true,some (many,getL L (E.key i)))
      | none=>((false,0),Z1l s i false,some (many,putL many L (E.key i) (E.ans i).1)):=by
     unfold runP;rw[if_neg (by simpa using hi),if_neg (by simpa using h1),if_neg (by rw[hr];decide)]
     rfl
    rw[e];rcases hW.runs hI hi hr with⟨j,q,hq,h2,h3,ha,_⟩|⟨hz,ha⟩
    ·rw[if_pos (show (E.ans i).2≠0 by rw[ha];decide)]
     have hbad:(E.W q).2≠0:=by
      rcases hW.input hi (Q4 hq)with⟨k,_,_,_,hby,_⟩|⟨_,hw⟩
      ·rw[hby]at h2;cases h2
      ·rw[hw];unfold Z7p;rw[h3];decide
     exact(Zjx h hW hI hL (hVw.errs.sub (by decide)) hi hr hq hbad ha).mono fun _ _ h=>h.cache hC
    ·by_cases hb:(E.ans i).2=0
     ·rw[if_neg (by simpa using hb)]
      cases hl:L.lookup (E.key i)with
      | none=>exact Zny h hc hC hW hI hL hx0 hlo (hV.act (by decide)) hi hr hz ha hb hl
      | some x=>exact runC_hit h hc hC hW hI hL hx0 hlo (hV.act (by decide)) hi hr hz ha hl
     ·rw[if_pos hb]
      exact runC_bad h hc hC hW hI hL hx0 hlo (hV.act (by decide)) hi hr hz ha hb
  ·have e:runP E (some (many,L)) s i=((false,12),s,some (many,L)):=by
    unfold runP;rw[if_neg (by simpa using hi),if_pos h1]
   rw[e];exact(Zjz h (hVw.errs.sub (by decide)) hi h1).mono fun _ _ h=>h.cache hC
 ·have hz2:∀k∈E.sm,(k:Int)≠z:=fun k hk e=>hz ⟨k,e.symm,hk⟩
  unfold Zbp;rw[Z6j hz2];exact(Zjy h (hVw.errs.sub (by decide)) z hz2).mono fun _ _ h=>h.cache hC
end
section
variable {E:BE}{o:List Nat}{is:Nat→Bool}{s:BS}{many:Nat}{L:FL}
theorem Z0w.runZ(h:Z0w E o is)(I:BInv E s)(C:CS)(z:Int):BInv E (runZ E C s z).2.1:=by
 by_cases hin:∃i:Nat,i∈E.sm∧(i:Int)=z
 ·obtain⟨i,hi,rfl⟩:=hin
  rw[Z7d hi];exact h.run I i
 ·rw[Z6j (fun k hk e=>hin ⟨k,hk,e⟩)]
  exact I
end
theorem Zjw{E:BE}{s:BS}{C:CS}{i:Nat}(hi:i∈E.sm)(hr:Z0n E s i=true):(runZ E C s (i:Int)).1.2=0∧∀k,ranP (runZ E C s (i:Int)).2.1 k=(decide (k=i) || ranP s k):=by
 obtain⟨b,C',e⟩:=Zfl (C:=C) hi hr;rw[Z7d hi,e];exact⟨rfl,fun k=>ran_step k⟩
section
variable {w0 wr w':World}{P:Nat→Addr}{E:BE}{Ka Kb Kd:BK}{cb cmb many ba bb bd be:Nat}{X:List (Nat×Obj)}{L:FL}{sa sb sd:BS}{o:List Nat}{is:Nat→Bool}
end
def In64(p:Int):Prop:=-9223372036854775808≤p∧p≤9223372036854775807
inductive Z78 {σ:Type} (E:BE) (bs:σ→BS) (step:σ→Nat→σ):σ→List Nat→σ→Prop
 | stop {x:σ}:Z37 E (bs x)=[]→Z78 E bs step x [] x
 | more {x y:σ} {o:List Nat} {i:Nat} {R:List Nat}:Z37 E (bs x)=i :: R→Z78 E bs step (step x i) o y→Z78 E bs step x (i :: o) y
section
variable {σ:Type}{E:BE}{bs:σ→BS}{step:σ→Nat→σ}{x y z:σ}{o p:List Nat}
end
theorem Zig{H:Type}{enc:TypeId×Value→H}{w:World}{base:Nat}{spare:Nat→Bool}{held:Bool}{fuel:Nat}{a:Option Addr}{len cap:Nat}{x:DataW H×List MemPlace}
  (h:DataW.trod enc Tryz.prog w base spare held fuel 46 [.slice a len cap]=some x) (_hr:∀n∈x.1.weights Tryz.prog 46,n≤140737488351232) :
  ∃l:List Int,l.length=len∧Rd I w (.slice a len cap) l∧∀p∈l,In64 p:=by
 rcases Go.ChangeShapes.open_ints Tryz.underlying46 Tryz.underlying3 (by kernel_rfl) h with⟨h0,_⟩|⟨ad,len',cap',zs,hcs,_,hl,hm,hzl,_,hcell,hwf⟩
 ·cases h0
  exact⟨[],rfl,Rd.nil _ _,fun p hp=>(by cases hp)⟩
 ·cases hcs
  have hzn:len≤zs.length:=by rw[hzl];split <;> omega
  have hlen:(zs.take len).length=len:=by rw[List.length_take];omega
  refine⟨zs.take len,hlen,⟨some ad,cap,by rw[hlen],by rw[hlen];exact hl,hm,fun hne=>?_⟩,fun p hp=>(Lit.wf_int_iff .i64 p).1 (hwf p (List.mem_of_mem_take hp))⟩
  have hpos:0<len:=by
   rcases Nat.eq_zero_or_pos len with h|h
   ·subst h;simp at hne
   ·exact h
  obtain⟨b,off,spot⟩:=ad;have hs:spot=none:=by
   have:=hcell 0 (by omega)
   simpa [Addr.add] using World.cell?_spot this
  subst hs;refine⟨b,off,rfl,fun i y hx=>?_⟩
  have hlt:i<len:=by have:=(Q2 hx).1;omega
  have h1:=hcell i (by omega)
  have he:zs.getD i 0=y:=by
   rw[List.getElem?_take_of_lt hlt]at hx;rw[List.getD_eq_getElem?_getD,hx];rfl
  rw[he]at h1;rw[Zqe]at h1;exact h1
end Go.Proofs.YtnmhaipjfpongacGreatDoor
