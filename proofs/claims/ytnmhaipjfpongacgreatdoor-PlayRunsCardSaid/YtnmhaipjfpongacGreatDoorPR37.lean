/- A part of this claim's proof;each theorem bears its own conditions. -/
import Derived.Test.YtnmhaipjfpongacGreatDoorPR36
set_option maxRecDepth 100000
set_option maxHeartbeats 16000000
namespace Go.Proofs.YtnmhaipjfpongacGreatDoor
open Go.ChangeShapes Go.WideShapes Go.ChangeAt Go.RowKit
section
variable {w0 w w':World}{E:BE}{K:MK}{s:BS}{o:List Nat}{is:Nat→Bool}{cb:Nat}{cv:Value}{C:CS}
theorem Z1f.failed{w1:World}{e:Ending}(hC:CchM w1 K cb cv C)(ho:Ext w w1)(h:Zhn w0 w1 E K s e w'):Z2x w0 w' E K s∧CchM w' K cb cv C∧Only (fun i=>InM K i∨i=cb) w w'∧e=.returned (.tuple #[]):=by
 obtain⟨rfl,h1,h2⟩:=h;exact⟨h1,hC.tabs h2,(Only.after ho h2).mono fun _ _ h=>.inl h,rfl⟩
noncomputable def Zpb(E:BE)(s:BS)(i:Nat)(key:B):CS→(Bool×Nat)×BS×CS
 | none=>((false,0),Z1l s i false,none)
 | some (many,L)=>match L.lookup key with
  | some _=>((true,0),Z1l s i true,some (many,getL L key))
  | none=>((false,0),Z1l s i false,some (many,putL many L key (E.ans i).1))
theorem Zpa{E:BE}{s:BS}{i:Nat}{key:B}{many:Nat}{L:FL}{x:B}(h:L.lookup key=some x):Zpb E s i key (some (many,L))=((true,0),Z1l s i true,some (many,getL L key)):=by
 unfold Zpb;simp only[h]
theorem Zms{E:BE}{s:BS}{i:Nat}{key:B}{many:Nat}{L:FL}(h:L.lookup key=none):Zpb E s i key (some (many,L))=((false,0),Z1l s i false,some (many,putL many L key (E.ans i).1)):=by
 unfold Zpb;simp only[h]
theorem MAt.dones(h:Z2x w0 w E K s){i:Nat}(hi:i∈E.sm)(h1:s.st i=1){x:B}(hx:x=(E.ans i).1):Z2x w0 ((w.setCell ⟨K.st,i,none⟩ (S [100,111,110,101])).setCell ⟨K.ou,i,none⟩ (S x)) E K (Z1l s i false)∧Only (InM K) w ((w.setCell ⟨K.st,i,none⟩ (S [100,111,110,101])).setCell ⟨K.ou,i,none⟩ (S x)):=by
 obtain⟨hA,o1⟩:=h.setSt i 2 (g':=mst E (Z1l s i false)) (fun k=>Z4n hi false k)
 obtain⟨hB,o2⟩:=hA.setOu i x (ou':=outM E (Z1l s i false)) (fun k=>by rw[Zg1 hi false k,hx])
 refine⟨hB.congr (fun _ _=>rfl) (fun _ _=>rfl) (fun k _=>?_) (fun k _=>(Zf8 hi h1 false k).symm),o1.then o2⟩
 rw[Zgt hi false k];by_cases e:k=i
 ·subst e
  rw[if_pos rfl];unfold hitM;rw[Z1z hi,h1];rfl
 ·rw[if_neg e]
theorem MAt.hits(h:Z2x w0 w E K s){i:Nat}(hi:i∈E.sm)(h1:s.st i=1){x:B}(hx:x=(E.ans i).1):Z2x w0 (((w.setCell ⟨K.st,i,none⟩ (S [100,111,110,101])).setCell ⟨K.ou,i,none⟩ (S x)).setCell ⟨K.hi,i,none⟩ (.bool true)) E K (Z1l s i true)∧Only (InM K) w (((w.setCell ⟨K.st,i,none⟩ (S [100,111,110,101])).setCell ⟨K.ou,i,none⟩ (S x)).setCell ⟨K.hi,i,none⟩ (.bool true)):=by
 obtain⟨hA,o1⟩:=h.setSt i 2 (g':=mst E (Z1l s i true)) (fun k=>Z4n hi true k)
 obtain⟨hB,o2⟩:=hA.setOu i x (ou':=outM E (Z1l s i true)) (fun k=>by rw[Zg1 hi true k,hx])
 obtain⟨hD,o3⟩:=hB.setHi i true (hi':=hitM E (Z1l s i true)) (fun k=>Zgt hi true k)
 exact⟨hD.congr (fun _ _=>rfl) (fun _ _=>rfl) (fun _ _=>rfl) (fun k _=>(Zf8 hi h1 true k).symm),(o1.then o2).then o3⟩
theorem Zli(h:Z2x w0 w E K s)(hC:CchM w K cb cv C)(hW:Z0w E o is)(hI:BInv E s)(hL:Z3i E)(hT:E.T.length≤1000000)(hcb:w0.heap.size≤cb∨K.q cb)(hcl:cb<w.heap.size){i:Nat}(hi:i∈E.sm)(hr:Z0n E s i=true) :
  Calls Tryz.prog 57 #[PTR K.b,I i] w (Z1f w0 w E K cb cv (runP E C s i).1 (runP E C s i).2.1 (runP E C s i).2.2):=by
 have HCB:=Q0 hcb;have HCLT:=Q0 hcl;clear hcb hcl;have hin:=hW.lt i hi;have h1:=(Z13.1 hr).1;have hl40:=hW.right.1;have hlz:(E.l.length:Int)≤40:=by omega
 have hiz:(i:Int)<(E.l.length:Int):=by omega
 have hi0:(0:Int)≤(i:Int):=by omega
 have hi1:¬(i:Int)<0:=by omega
 have hi2:¬(E.l.length:Int)≤(i:Int):=by omega
 have c1:=(h.cell 1).trans (rfl:_=some (Value.slice K.la E.l.length K.lc));have c2:=(h.cell 2).trans (rfl:_=some (TabS K.st E.l.length));have t0:=h.tab.st.cell hin;have hb0:=Zaf (Z73 hI i);have hb1:=Z4j (Z73 hI i);rw[Z1z hi,h1]at hb0 hb1 t0;rw[show ((1:Nat)==0)=false from rfl]at hb0
 rw[show ((1:Nat)==1)=true from rfl]at hb1
 generalize Z0d 1=sv at t0 hb0 hb1;have hrm:=Z64 h hW hI hin;rw[show Z2a E s i=true by unfold Z2a;rw[hr,decide_eq_true hi];rfl]at hrm
 have HRM:=Q0 hrm;have H:=Q0 h;have HC:=Q0 hC;have HIM:=Q0 hi;have HS1:=Q0 h1;have HIN:=Q0 hin
 -- what it gives,by its answer
 have HBAD:Hid ((E.ans i).2≠0→runP E C s i=((false,0),Z1w E s i,C)):=Q0 (fun hb=>by
  unfold runP;rw[if_neg (by simpa using hi),if_neg (by simpa using h1),if_neg (by rw[hr];decide),if_pos hb])
 have HGOOD:Hid ((E.ans i).2=0→runP E C s i=Zpb E s i (E.key i) C):=Q0 (fun hb=>by
  unfold runP;rw[if_neg (by simpa using hi),if_neg (by simpa using h1),if_neg (by rw[hr];decide),if_neg (by simpa using hb)]
  rfl)
 have HFAIL:=Q0 (fun(w1:World) (hb:Z2x w0 w1 E K s) (c:Nat) (hc:(E.ans i).2=c)=>Zpg hb hW hI hi h1 c hc)
 have HRD0:=h.rd;have HRD:=Q0 HRD0;obtain⟨_,_,hva,_,_,hcl⟩:=HRD0;cases hva;have HCL:=Q0 hcl;obtain⟨lb,lo,hla,hcell⟩:=hcl (by intro h;rw[h]at hin;simp at hin)
 have HLA:=Q0 hla;have HC1:=Q0 (fun(wr:World) (hm:Z2x w0 wr E K s)=>(show wr.cell? ⟨K.b,1,none⟩=some (Value.slice (some ⟨lb,lo,none⟩) E.l.length K.lc) from by rw[hm.cell 1,←hla];rfl))
 rw[hla]at c1;obtain⟨u,hu,k0,k1,k2,k3⟩:=hcell i (E.rule i) (BE.rule_at hin);have HMADE:=Q0 (fun(q:B) (hq:q∈(E.rule i).ins) (j:Nat) (r:Rule) (hj:E.l[j]?=some r) (he:(r.out==q)=true)=>hW.made hi hr hq hj he)
 have HLEAF:=Q0 (fun(q:B) (hq:q∈(E.rule i).ins) (hm:Z5q E q E.l.length=false)=>hW.leafM hi hq hm)
 have HEND:=Q0 (fun q=>Zom hW.right q)
 have HANS:=Q0 (hW.ans hi);have HII:=Q0 hI;have HTL:=Q0 hT;obtain⟨hal,hax⟩:=hL.args hW hi;have hsum:Z0h (E.args i)+(E.args i).length≤900000:=by
  have:=Znl hax
  have h5:(E.args i).length*2000≤12*2000:=Nat.mul_le_mul_right _ hal;omega
 have HACT:=Q0 (fun(w1:World) (v:Value) (hv:Rd S w1 v (E.args i))=>Zhf w1 (E.rule i).kind (E.rule i).word (E.args i) v hv hsum (by have:=hL.word i hi;omega))
 have HKEY:=Q0 (fun(w1:World) (v:Value) (hv:Rd S w1 v (E.args i))=>Zmn w1 (E.rule i).kind (E.rule i).word v (E.args i) hv (hL.kind i hi) (hL.word i hi) hal (fun x hx=>by have:=hax x hx;omega))
 have h12:=hL.ins i hi;have hkey:E.key i=keyT (E.rule i).kind (E.rule i).word (E.args i):=rfl;have hargs:E.args i=(E.rule i).ins.map fun q=>(E.W q).1:=rfl
 generalize E.key i=key at HGOOD hkey;generalize E.args i=args at HACT HKEY hkey hargs;generalize E.rule i=r at u hu k0 k1 k2 k3 HMADE HLEAF HANS HACT HKEY h12 hkey hargs;rw[←hkey]at HKEY;have HKY:=Q0 hkey;have HAR:=Q0 hargs;have hrz:(r.ins.length:Int)≤12:=by omega
 obtain⟨au,cu,rfl,_,_,hcu⟩:=hu;have HCU:=Q0 hcu;clear hla;clear h hC hW hI hL hT hi hr hin h1 hrm hcl hcell hcu hal hax hsum h12 hkey hargs;go_enter Tryz.func57,Tryz.ntmps57;go_wp2_with fail;refine HRM.out.mono ?_;rintro e w3 ⟨rfl,ho⟩;have HX3:=Q0 ho;have m1:=ho.cellOf c1 (fun h=>h)
 have n0:=ho.cellOf k0 (fun h=>h)
 have n1:=ho.cellOf k1 (fun h=>h)
 have n2:=ho.cellOf k2 (fun h=>h)
 have n3:=ho.cellOf k3 (fun h=>h)
 clear ho c1 c2 t0 k0 k1 k2 k3 HRM;have HB4:=Q0 (MapKept.heap_alloc w3 (.cells #[S r.out,S r.kind,S r.word,.slice au r.ins.length cu] 55 (0,0))).1;have HX4:Hid (Ext w (w3.alloc (.cells #[S r.out,S r.kind,S r.word,.slice au r.ins.length cu] 55 (0,0)))):=Q0 (HX3.out.thenAlloc _);have HRB:Hid (cb≠w3.heap.size):=Q0 (by have:=HCLT.out;have:=HX3.out.size;omega)
 go_upto_if 61 with fail
 generalize (w3.alloc (.cells #[S r.out,S r.kind,S r.word,.slice au r.ins.length cu] 55 (0,0)))=w4 at HB4 HX4 ⊢;generalize w3.heap.size=rb at HB4 HRB ⊢;clear m1 n0 n1 n2 n3;obtain⟨bs,hbs⟩:∃bs,bs=w4.heap.size:=⟨_,rfl⟩;have HBS:Hid (bs=w4.heap.size):=Q0 hbs;have HRB2:Hid (cb<bs):=Q0 (by have:=HCLT.out;have:=HX4.out.size;omega)
 clear hbs;go_loopw [8,9,10,11,12] (fun q k _ _ _ wr=>∃(t:Nat)(qv:Value),qv=q∧t≤r.ins.length∧k=.int .i64 t∧Hid (Row bs wr qv ((r.ins.take t).map fun q=>(E.W q).1))∧Hid (∀x∈r.ins.take t,(E.W x).2=0)∧Hid (Ext w4 wr)) (fun _ k _ _ _ _=>r.ins.length-(intOf k).toNat)
 case atStart=>exact⟨0,_,rfl,Nat.zero_le _,rfl,Q0 (Row.nil _ _),Q0 (by simp),Q0 (Only.refl _ _)⟩
 case round=>
  obtain⟨t,qv,rfl,ht,rfl,HR,HZ,HX⟩:=hrel;have HRW:=Q0 (HX.out.heapOf HB4.out (fun h=>h))
  have p3:=(Z00 HRW.out 3).trans (rfl:_=some (Value.slice au r.ins.length cu));by_cases htl:t<r.ins.length
  ·have htz:(t:Int)<(r.ins.length:Int):=by omega
   have ht0:(0:Int)≤(t:Int):=by omega
   have ht1:¬(t:Int)<0:=by omega
   have ht2:¬(r.ins.length:Int)≤(t:Int):=by omega
   obtain⟨bu,ou,rfl,hcellu⟩:=HCU.out (by intro h;rw[h]at htl;simp at htl)
   obtain⟨q,hq⟩:∃y,r.ins[t]?=some y:=⟨_,Q1 htl⟩;have HQC:=Q0 (hcellu t q hq);have HQM:=Q0 (Q4 hq);have HQ:=Q0 hq;have HTK:Hid ((r.ins.take (t+1)).map (fun q=>(E.W q).1)=(r.ins.take t).map (fun q=>(E.W q).1)++[(E.W q).1]):=Q0 (by rw[List.take_add_one,hq];simp)
   have HZ2:Hid ((E.W q).2=0→∀x∈r.ins.take (t+1),(E.W x).2=0):=Q0 (fun h0 x hx=>by
    rw[List.take_add_one,hq]at hx;rcases List.mem_append.1 hx with hx|hx
    ·exact HZ.out x hx
    ·rw[Option.toList_some,List.mem_singleton]at hx;rw[hx];exact h0)
   have hal:((r.ins.take t).map fun q=>(E.W q).1).length≤12:=by rw[List.length_map,List.length_take];omega
   have HAL:=Q0 hal;have HTL2:=Q0 htl;generalize hA:(r.ins.take t).map (fun q=>(E.W q).1)=A at HR HTK HAL
   clear hcellu hq hal htl ht hA;go_wp2_with fail;clear p3;go_loopw [8,10,11] (fun iv f j wx=>∃(y:Nat)(qv:Value),qv=iv∧y≤E.l.length∧f=.bool (Z5q E q y)∧j=.int .i64 y∧Hid (Row bs wx qv (A++Z7w E q y))∧Hid (Ext w4 wx)) (fun _ _ j _=>E.l.length-(intOf j).toNat)
   case atStart=>exact⟨0,_,rfl,Nat.zero_le _,rfl,rfl,by simpa [Z7w] using HR,HX⟩
   case round=>
    clear HR HX HRW;obtain⟨y,qv,rfl,hy,rfl,rfl,HR,HX⟩:=hrel;have HXW:=Q0 (HX4.out.then HX.out);have HM:=Q0 (H.out.grow HXW.out);have HRW:=Q0 (HX.out.heapOf HB4.out (fun h=>h))
    have p3:=(Z00 HRW.out 3).trans (rfl:_=some (Value.slice (some ⟨bu,ou,none⟩) r.ins.length cu));have m1:=HC1.out wr HM.out;by_cases hyl:y<E.l.length
    ·have hyz:(y:Int)<(E.l.length:Int):=by omega
     have hy0:(0:Int)≤(y:Int):=by omega
     have hy1:¬(y:Int)<0:=by omega
     have hy2:¬(E.l.length:Int)≤(y:Int):=by omega
     have hqc:=HXW.out.cellOf HQC.out (fun h=>h)
     obtain⟨rj,hrj⟩:∃y',E.l[y]?=some y':=⟨_,Q1 hyl⟩;obtain⟨lb',lo',hlb,hcell⟩:=HCL.out (by intro h;rw[h]at hyl;simp at hyl)
     rw[HLA.out]at hlb;cases hlb;obtain⟨_,_,g0,_,_,_⟩:=hcell y rj hrj;have e0:=HXW.out.cellOf g0 (fun h=>h)
     have HRJ:=Q0 hrj;have HOS:=Q0 (Zlz (E:=E) (q:=q) hrj);have HMS:=Q0 (Zip (E:=E) (q:=q) hrj);have HYL:=Q0 hyl;have m3:=fun n=>((HM.out.grow (Only.drewN _ wr n)).cell 3).trans (rfl:_=some (TabS K.ou E.l.length))
     have m4:=fun n=>(HM.out.grow (Only.drewN _ wr n)).tab.ou.cell hyl
     generalize hmt:Z5q E q y=mt at HMS ⊢;clear hcell g0 hrj hyl hy hmt;cases heq:rj.out==q with
     | true=>
      rw[heq]at HOS HMS;rw[if_pos rfl]at HOS;rw[Bool.or_true]at HMS;obtain⟨hov,_⟩:=HMADE.out q HQM.out y rj HRJ.out heq;simp only[hov]at m4;have hlen:(A++Z7w E q y).length≤1000000:=by
       have h1:(Z7w E q y).length≤y:=by
        unfold Z7w;rw[List.length_map];have:=List.length_filter_le (fun r:Rule=>r.out==q) (E.l.take y)
        rw[List.length_take]at this;omega
       have:=HAL.out
       have:=HYL.out
       rw[List.length_append];omega
      have HLEN:=Q0 hlen;have HAS:Hid (A++Z7w E q (y+1)=(A++Z7w E q y)++[(E.W q).1]):=Q0 (by rw[HOS.out,List.append_assoc])
      have HRN:=Q0 (fun n=>(show Row bs (wr.drewN n) qv (A++Z7w E q y) from HR.out.ext (Only.drewN _ _ n)))
      have HXN:=Q0 (fun n=>HX.out.then (Only.drewN _ wr n))
      have HSN:=Q0 (fun n=>(show bs≤(wr.drewN n).heap.size from by rw[HBS.out];exact(HXN.out n).size))
      have HBL:Hid (w4.heap.size≤bs):=Q0 (by rw[HBS.out];exact Nat.le_refl _)
      generalize A++Z7w E q y=Z at HLEN HAS HRN;generalize (E.W q).1=x at m4 HAS;clear hlen hov;go_wp2_with fail;go_quiet (fail);go_wp2_with (at_builtin;refine Z2t rfl (.tmp 87) (.tmp 95) w4 bs _ Z x _ rfl rfl rfl rfl (HRN.out _) HLEN.out (HSN.out _) (HXN.out _) HBL.out ?_;intro g5 cap5 w5 HR5 HX5 _);go_roundw
      case rel=>exact⟨y+1,_,rfl,HYL.out,by rw[HMS.out],by go_num,by rw[HAS.out];exact HR5,HX5⟩
      case measure=>have:=HYL.out;simp[intOf];omega
     | false=>
      rw[heq]at HOS HMS;rw[if_neg (by simp),List.append_nil]at HOS
      rw[Bool.or_false]at HMS;clear m3 m4;go_wp2_with fail;go_quiet (fail);have HR5:=Q0 (HR.out.ext (Only.drewN _ wr nq));have HX5:=Q0 (HX.out.then (Only.drewN _ wr nq));go_wp2_with fail;go_roundw
      case rel=>exact⟨y+1,_,rfl,HYL.out,by rw[HMS.out],by go_num,by rw[HOS.out];exact HR5,HX5⟩
      case measure=>have:=HYL.out;simp[intOf];omega
    ·have hyz:¬(y:Int)<(E.l.length:Int):=by omega
     have hye:y=E.l.length:=by omega
     subst hye;have hend:=HEND.out q;cases hm:Z5q E q E.l.length with
     | true=>
      rw[hm,if_pos rfl]at hend;rw[hend,←HTK.out]at HR;have HZ3:=Q0 (HZ2.out (by
       unfold Z5q at hm;rw[List.take_length,List.any_eq_true]at hm;obtain⟨rj,hrj,he⟩:=hm;obtain⟨j,hj⟩:=List.getElem?_of_mem hrj;exact(HMADE.out q HQM.out j rj hj he).2 HII.out))
      clear hend hm hy;go_wp2_with fail;go_roundw
      case rel=>exact⟨t+1,_,rfl,HTL2.out,by go_num,HR,HZ3,HX⟩
      case measure=>have:=HTL2.out;simp[intOf];omega
     | false=>
      rw[hm,if_neg (by simp)]at hend
      rw[hend,List.append_nil]at HR;have hwq:=HLEAF.out q HQM.out hm;have m0:=(HM.out.cell 0).trans (rfl:_=some (PTR K.t));have hqc:=HXW.out.cellOf HQC.out (fun h=>h)
      have HFD:=Q0 (fun n=>Z4a (wr.drewN n) K.t K.tv E.T q ((HM.out.grow (Only.drewN _ wr n)).tree.cells) ((HM.out.grow (Only.drewN _ wr n)).tree.rd) HTL.out)
      unfold Z7p at hwq;rcases Za4 E.T q with⟨f,⟨a,x⟩,hf,hfe,hlk⟩|⟨hf,hlk⟩
      ·rw[hlk]at hwq
       rw[hf]at HFD;have HZ3:=Q0 (HZ2.out (by rw[hwq]))
       rw[show (E.W q).1=x by rw[hwq]]at HTK
       have hfl:=(Q2 hfe).1;have HTR:=Q0 HM.out.tree;obtain⟨at',ct,htv,_,_,hct⟩:=HM.out.tree.rd;obtain⟨bt,ot,rfl,hcellt⟩:=hct (by intro h;rw[h]at hfl;simp at hfl)
       have HKT:=Q0 (hcellt f _ hfe 1 _ rfl);have hfz:(f:Int)<(E.T.length:Int):=by omega
       have hf0:(0:Int)≤(f:Int):=by omega
       have hf1:¬(f:Int)<0:=by omega
       have hf2:¬(E.T.length:Int)≤(f:Int):=by omega
       have htlz:(E.T.length:Int)≤1000000:=by have:=HTL.out;omega
       have HBL:Hid (w4.heap.size≤bs):=Q0 (by rw[HBS.out];exact Nat.le_refl _)
       have HALL:Hid (A.length≤1000000):=Q0 (by have:=HAL.out;omega)
       clear hwq hend hm hy hf hfe hlk hct hcellt hfl;go_wp2_with fail;go_quiet ((go_at_call 98;exact Calls.quiet_of_same ((HFD.out _).mono fun _ _ h=>⟨h.1,h.2.symm⟩)))
       have HR5:=Q0 (HR.out.ext (Only.drewN _ wr nq));have HX5:=Q0 (HX.out.then (Only.drewN _ wr nq));have HM5:=HM.out.grow (Only.drewN _ wr nq);have a0:=(HM5.cell 0).trans (rfl:_=some (PTR K.t));have a1:=(Z00 HM5.tree.cells 0).trans (rfl:_=some K.tv);rw[htv]at a1;have a2:=(Only.drewN (fun _=>False) wr nq).cellOf HKT.out (fun h=>h)
       have HSN:Hid (bs≤(wr.drewN nq).heap.size):=Q0 (by rw[HBS.out];exact HX5.out.size)
       generalize wr.drewN nq=wd at HR5 HX5 HM5 a0 a1 a2 HSN ⊢;clear HM5 m0 m1 p3 hqc htv;go_wp2_with (at_builtin;refine Z2t rfl (.tmp 113) (.tmp 125) w4 bs _ A x _ rfl rfl rfl rfl HR5.out HALL.out HSN.out HX5.out HBL.out ?_;intro g5 cap5 w5 HR6 HX6 _);go_roundw
       case rel=>exact⟨t+1,_,rfl,HTL2.out,by go_num,by rw[HTK.out];exact HR6,HZ3,HX6⟩
       case measure=>have:=HTL2.out;simp[intOf];omega
      ·rw[hlk]at hwq
       rw[hf]at HFD;have hans:E.ans i=([],6):=by rw[HANS.out,Za0 HQ.out (by rw[hwq];decide) HZ.out,hwq]
       have hre:=HBAD.out (by rw[hans];decide)
       have HRE:=Q0 hre;have HFL:=Q0 (fun(w1:World) (hx:Ext w w1)=>HFAIL.out w1 (H.out.grow hx) 6 (by rw[hans]))
       clear hwq hend hm hy hf hlk hans hre;go_wp2_with fail;go_quiet ((go_at_call 98;exact Calls.quiet_of_same ((HFD.out _).mono fun _ _ h=>⟨h.1,h.2.symm⟩)))
       have HX5:=Q0 (HXW.out.then (Only.drewN _ wr nq));generalize wr.drewN nq=wd at HX5 ⊢;clear m0 m1 p3 hqc;go_wp2_with fail;refine(HFL.out wd HX5.out).mono ?_;intro e w6 hp;obtain⟨hm6,hc6,ho6,rfl⟩:=Z1f.failed (HC.out.ext HX5.out) HX5.out hp;have HM6:=Q0 hm6;have HC6:=Q0 hc6;have HO6:=Q0 ho6;clear hp hm6 hc6 ho6;go_wp2_with fail;go_ret2;rw[HRE.out];exact⟨cv,rfl,HM6.out,HC6.out,HO6.out,fun _ h=>.inl h⟩
  ·-- all inputs are there
   have htz:¬(t:Int)<(r.ins.length:Int):=by omega
   rw[List.take_of_length_le (by omega),←HAR.out]at HR
   rw[List.take_of_length_le (by omega)]at HZ
   have hans:E.ans i=(Z17 r.kind r.word args,Z0f r.kind r.word args):=by rw[HANS.out,Ze2 HZ.out,HAR.out]
   have HA1:Hid (Z17 r.kind r.word args=(E.ans i).1):=Q0 (by rw[hans])
   have HA2:Hid (Z0f r.kind r.word args=(E.ans i).2):=Q0 (by rw[hans])
   have HXW:=Q0 (HX4.out.then HX.out);have p1:=(Z00 HRW.out 1).trans (rfl:_=some (S r.kind));have p2:=(Z00 HRW.out 2).trans (rfl:_=some (S r.word));have HKY2:=Q0 (HKEY.out wr qv HR.out.rd);obtain⟨aq,cq,rfl,_,_,_⟩:=HR.out.rd;clear htl ht hans HZ HMADE HLEAF HEND HANS;go_wp2_with fail;refine HKY2.out.mono ?_;rintro e w5 ⟨rfl,ho5⟩;have HX5:=Q0 (HXW.out.then ho5);have HR5:=Q0 (HR.out.ext ho5);have HRW5:=Q0 (ho5.heapOf HRW.out (fun h=>h))
   have HM5:=Q0 (H.out.grow HX5.out);have HC5:=Q0 (HC.out.ext HX5.out);have m6:=(HM5.out.cell 6).trans (rfl:_=some K.cp);clear ho5 p1 p2 p3;cases C with
   | none=>
    have hcp:K.cp=.pointer none:=HC5.out
    rw[hcp]at m6;have HAC:=Q0 (HACT.out w5 _ HR5.out.rd);rw[HA1.out,HA2.out]at HAC;have p1:=(Z00 HRW5.out 1).trans (rfl:_=some (S r.kind));have p2:=(Z00 HRW5.out 2).trans (rfl:_=some (S r.word));have HCP:=Q0 hcp;clear hcp;by_cases hb:(E.ans i).2=0
    case neg=>
     have HRE:=Q0 (HBAD.out hb);have HFL:=Q0 (fun(w1:World) (hx:Ext w w1)=>HFAIL.out w1 (H.out.grow hx) _ rfl)
     obtain⟨c,hc⟩:∃c,c=(E.ans i).2:=⟨_,rfl⟩;rw[←hc]at HAC HFL;have hcz:(0:Int)<(c:Int):=by omega
     clear hb hc;go_wp2_with fail;refine HAC.out.mono ?_;rintro e w7 ⟨rfl,ho7⟩;have HX7:=Q0 (HX5.out.then ho7);clear ho7 m6 p1 p2;go_wp2_with fail;refine(HFL.out w7 HX7.out).mono ?_;intro e w8 hp;obtain⟨hm8,hc8,ho8,rfl⟩:=Z1f.failed (HC.out.ext HX7.out) HX7.out hp;have HM8:=Q0 hm8;have HC8:=Q0 hc8;have HO8:=Q0 ho8;clear hp hm8 hc8 ho8;go_wp2_with fail;go_ret2;rw[HRE.out];exact⟨cv,rfl,HM8.out,HC8.out,HO8.out,fun _ h=>.inl h⟩
    case pos=>
     have HRE:=Q0 (HGOOD.out hb);rw[hb]at HAC;obtain⟨x,hx⟩:∃x,x=(E.ans i).1:=⟨_,rfl⟩;rw[←hx]at HAC;have HXE:=Q0 hx;clear hb hx;go_wp2_with fail;refine HAC.out.mono ?_;rintro e w7 ⟨rfl,ho7⟩;have HX7:=Q0 (HX5.out.then ho7);have HM7:=Q0 (H.out.grow HX7.out);have q2:=(HM7.out.cell 2).trans (rfl:_=some (TabS K.st E.l.length));have ts:=HM7.out.tab.st.cell HIN.out;have fs:=HM7.out.tab.st.free i;obtain⟨hd,hod⟩:=HM7.out.dones HIM.out HS1.out HXE.out;have HD:=Q0 hd;have HOD:=Q0 hod;obtain⟨hA,hoA⟩:=HM7.out.setSt i 2 (g':=mst E (Z1l s i false)) (fun k=>Z4n HIM.out false k)
     have q3:=(hA.cell 3).trans (rfl:_=some (TabS K.ou E.l.length));have ts3:=hA.tab.ou.cell HIN.out;have fs3:=hA.tab.ou.free i;have q6:=(hd.cell 6).trans (rfl:_=some K.cp);rw[HCP.out]at q6;rw[show Z0d 2=[100,111,110,101] from rfl]at q3 ts3 fs3
     generalize Z0d (mst E s i)=sx at ts;generalize outM E s i=sy at ts3;clear ho7 m6 p1 p2 hd hod hA hoA;go_wp2_with fail;go_ret2;rw[HRE.out];exact⟨cv,rfl,HD.out,HCP.out,(Only.after HX7.out HOD.out).mono fun _ _ h=>.inl h,fun _ h=>.inl h⟩
   | some mL=>
    obtain⟨many,L⟩:=mL;obtain⟨hcp,hcc,hap1,hap2⟩:=HC5.out;rw[hcp]at m6;have HCP:=Q0 hcp;have HCC:=Q0 hcc;have HAP:=Q0 (And.intro hap1 hap2);have hgt:=Zpc w5 cb many cv L key hcc.cells hcc.rd (by have:=hcc.len;have:=hcc.many;omega) hcc.len hcc.nodup
    clear hcp hcc hap1 hap2 HC5;cases hlk:L.lookup key with
    | some x=>
     rw[hlk]at hgt;obtain⟨hc0,hx⟩:=(show Z0f r.kind r.word args=0∧x=Z17 r.kind r.word args from HCC.out.ok.hit (by rw[←HKY.out];exact hlk))
     have hb:(E.ans i).2=0:=by rw[←HA2.out];exact hc0
     have HXE:Hid (x=(E.ans i).1):=Q0 (by rw[hx];exact HA1.out)
     have hre:=HGOOD.out hb;rw[Zpa hlk]at hre;have HRE:=Q0 hre;have HGT:=Q0 hgt;clear hlk hgt hc0 hx hb hre;go_wp2_with fail;refine HGT.out.mono ?_;intro e w7 hg;obtain⟨cv7,rfl,hc7,ho7,hn7⟩:=HCC.out.got hg (HCC.out.ok.get key) (by
      have h1:=HCC.out.nodup;unfold getL;split
      ·exact Z8w h1 _ _
      ·exact h1) (Zpd key HCC.out.nodup HCC.out.len)
     have hm7:=HM5.out.laterQ ho7 (fun i e=>by rw[e];exact HCB.out) (fun i hi e=>HAP.out.1 (e ▸ hi))
     have HM7:=Q0 hm7;have HC7:=Q0 hc7;have HN7:=Q0 hn7;have HO7:=Q0 ho7;have q2:=(hm7.cell 2).trans (rfl:_=some (TabS K.st E.l.length));have ts:=hm7.tab.st.cell HIN.out;have fs:=hm7.tab.st.free i;obtain⟨hd,hod⟩:=hm7.hits HIM.out HS1.out HXE.out;have HD:=Q0 hd;have HOD:=Q0 hod;obtain⟨hA,hoA⟩:=hm7.setSt i 2 (g':=mst E (Z1l s i false)) (fun k=>Z4n HIM.out false k)
     have q3:=(hA.cell 3).trans (rfl:_=some (TabS K.ou E.l.length));have ts3:=hA.tab.ou.cell HIN.out;have fs3:=hA.tab.ou.free i;obtain⟨hB,hoB⟩:=hA.setOu i x (ou':=fun k=>if k=i then x else outM E s k) (fun _=>rfl)
     have q4:=(hB.cell 4).trans (rfl:_=some (TabS K.hi E.l.length));have ts4:=hB.tab.hi.cell HIN.out;have fs4:=hB.tab.hi.free i;rw[show Z0d 2=[100,111,110,101] from rfl]at q3 ts3 fs3 q4 ts4 fs4
     generalize Z0d (mst E s i)=sx at ts;generalize outM E s i=sy at ts3;clear hg hc7 ho7 hn7 hm7 m6 hd hod hA hoA hB hoB;go_wp2_with fail;go_ret2;rw[HRE.out];exact Z1f.of_some ⟨cv7,rfl,HD.out,CchM.tabs (C:=some (many,getL L key)) ⟨HCP.out,HC7.out,HAP.out.1,fun i e=>by
      rcases HN7.out i e with e|e
      ·exact HAP.out.2 i e
      ·intro e2;have:=HM5.out.lt i e2;omega⟩ HOD.out,(Only.after HX5.out (HO7.out.mono fun _ _ h=>.inr h)).then (HOD.out.mono fun _ _ h=>.inl h),fun i e=>by
      rcases HN7.out i e with e|e
      ·exact .inl e
      ·exact .inr (Nat.le_trans HX5.out.size e)⟩
    | none=>
     rw[hlk]at hgt;rw[show getL L key=L by unfold getL;rw[hlk]]at hgt
     have HGT:=Q0 hgt;have HLK:=Q0 hlk;clear hlk hgt;go_wp2_with fail;refine HGT.out.mono ?_;intro e w6 hg;obtain⟨cv6,rfl,hc6,ho6,hn6⟩:=HCC.out.got hg HCC.out.ok HCC.out.nodup HCC.out.len;have hm6:=HM5.out.laterQ ho6 (fun i e=>by rw[e];exact HCB.out) (fun i hi e=>HAP.out.1 (e ▸ hi))
     have HM6:=Q0 hm6;have HC6:=Q0 hc6;have HAP6:Hid (∀i,cv6.ownBlock=some i→¬InMA K i):=Q0 (fun i e=>by
      rcases hn6 i e with e|e
      ·exact HAP.out.2 i e
      ·intro e2;have:=HM5.out.lt i e2;omega)
     have HN6:Hid (∀i,cv6.ownBlock=some i→cv.ownBlock=some i∨w.heap.size≤i):=Q0 (fun i e=>(hn6 i e).imp id fun h=>Nat.le_trans HX5.out.size h)
     have HO6:Hid (Only (fun i=>InM K i∨i=cb) w w6):=Q0 (Only.after HX5.out (ho6.mono fun _ _ h=>.inr h))
     have hrw6:=ho6.heapOf HRW5.out (fun e=>by
      have h1:=HRB.out;omega)
     have HR6:Hid (Row bs w6 (.slice aq args.length cq) args):=Q0 (ho6.row HR5.out (fun i e e2=>by
      have h1:=(HR5.out.lt i e).1;have h2:=HRB2.out;omega))
     have HAC:=Q0 (HACT.out w6 _ HR6.out.rd);rw[HA1.out,HA2.out]at HAC;have p1:=(Z00 hrw6 1).trans (rfl:_=some (S r.kind));have p2:=(Z00 hrw6 2).trans (rfl:_=some (S r.word));clear hg hc6 ho6 hn6 hm6 hrw6 m6;by_cases hb:(E.ans i).2=0
     case neg=>
      have HRE:=Q0 (HBAD.out hb);obtain⟨c,hc⟩:∃c,c=(E.ans i).2:=⟨_,rfl⟩;have HFL:=Q0 (fun(w1:World) (hx:Ext w6 w1)=>HFAIL.out w1 (HM6.out.grow hx) c hc.symm)
      rw[←hc]at HAC;have hcz:(0:Int)<(c:Int):=by omega
      clear hb hc;go_wp2_with fail;refine HAC.out.mono ?_;rintro e w7 ⟨rfl,ho7⟩;have HX7:=Q0 ho7;clear ho7 p1 p2;go_wp2_with fail;refine(HFL.out w7 HX7.out).mono ?_;intro e w8 hp;obtain⟨hm8,hc8,ho8,rfl⟩:=Z1f.failed (w:=w6) (CchM.ext (C:=some (many,L)) ⟨HCP.out,HC6.out,HAP.out.1,HAP6.out⟩ HX7.out) HX7.out hp;have HM8:=Q0 hm8;have HC8:=Q0 hc8;have HO8:=Q0 (HO6.out.then ho8);clear hp hm8 hc8 ho8;go_wp2_with fail;go_ret2;rw[HRE.out];exact Z1f.of_some ⟨cv6,rfl,HM8.out,HC8.out,HO8.out,HN6.out⟩
     case pos=>
      have hre:=HGOOD.out hb;rw[Zms HLK.out]at hre;have HRE:=Q0 hre;have HOK8:Hid (Z1x (putL many L key (E.ans i).1)):=Q0 (by
       rw[HKY.out,←HA1.out];exact HCC.out.ok.put HCC.out.nodup many (by rw[HA2.out];exact hb))
      rw[hb]at HAC;obtain⟨x,hx⟩:∃x,x=(E.ans i).1:=⟨_,rfl⟩;rw[←hx]at HAC HRE HOK8;have HXE:=Q0 hx;clear hb hx hre;go_wp2_with fail;refine HAC.out.mono ?_;rintro e w7 ⟨rfl,ho7⟩;have HX7:=Q0 ho7;have HM7:=Q0 (HM6.out.grow ho7);have HC7:=Q0 (HC6.out.ext ho7);have q2:=(HM7.out.cell 2).trans (rfl:_=some (TabS K.st E.l.length));have ts:=HM7.out.tab.st.cell HIN.out;have fs:=HM7.out.tab.st.free i;obtain⟨hd,hod⟩:=HM7.out.dones HIM.out HS1.out HXE.out;obtain⟨hA,hoA⟩:=HM7.out.setSt i 2 (g':=mst E (Z1l s i false)) (fun k=>Z4n HIM.out false k)
      have q3:=(hA.cell 3).trans (rfl:_=some (TabS K.ou E.l.length));have ts3:=hA.tab.ou.cell HIN.out;have fs3:=hA.tab.ou.free i;have q6:=(hd.cell 6).trans (rfl:_=some K.cp);rw[HCP.out]at q6;have HQ6:=Q0 q6;rw[show Z0d 2=[100,111,110,101] from rfl]at q3 ts3 fs3
      generalize Z0d (mst E s i)=sx at ts;generalize outM E s i=sy at ts3;obtain⟨w8,hw8⟩:∃w8,w8=((w7.setCell ⟨K.st,i,none⟩ (S [100,111,110,101])).setCell ⟨K.ou,i,none⟩ (S x)):=⟨_,rfl⟩;have hw8':((w7.setCell ⟨K.st,i,none⟩ (.string ⟨#[100,111,110,101]⟩)).setCell ⟨K.ou,i,none⟩ (.string ⟨x.toArray⟩))=w8:=hw8.symm;rw[←hw8]at hd hod;have hc8:CchM w8 K cb cv6 (some (many,L)):=CchM.tabs (C:=some (many,L)) ⟨HCP.out,HC7.out,HAP.out.1,HAP6.out⟩ hod;have HW8:=Q0 hw8';have HD:=Q0 hd;have HC8:=Q0 hc8;have HOD:=Q0 hod;have HPUT:=Q0 (Zfu w8 cb many cv6 L key x hc8.2.1.cells hc8.2.1.rd (by have:=hc8.2.1.len;have:=hc8.2.1.many;omega))
      clear ho7 p1 p2 hd hod hA hoA hw8 hw8' hc8;go_wp2_with fail;refine(show Calls _ _ _ _ _ from by rw[HW8.out];exact HPUT.out).mono ?_
      intro e w9 hg
      obtain⟨cv9,rfl,hc9,ho9,hn9⟩:=HC8.out.2.1.got hg HOK8.out (by
       unfold putL;have h1:=Z8w HCC.out.nodup key x;split
       ·exact h1.sublist ((List.tail_sublist _).map _)
       ·exact h1) (Zob key x HCC.out.len)
      have HM9:=Q0 (HD.out.laterQ ho9 (fun i e=>by rw[e];exact HCB.out) (fun i hi e=>HAP.out.1 (e ▸ hi)))
      have HC9:Hid (CchM w9 K cb cv9 (some (many,putL many L key x))):=Q0 ⟨HCP.out,hc9,HAP.out.1,fun i e=>by
       rcases hn9 i e with e|e
       ·exact HAP6.out i e
       ·intro e2;have:=HD.out.lt i e2;omega⟩
      have HO9:=Q0 ((Only.ext HO6.out HX7.out).then ((HOD.out.mono (fun _ _ h=>.inl h)).then (ho9.mono fun _ _ h=>.inr h)))
      have HN9:Hid (∀i,cv9.ownBlock=some i→cv.ownBlock=some i∨w.heap.size≤i):=Q0 (fun i e=>by
       rcases hn9 i e with e|e
       ·exact HN6.out i e
       ·exact .inr (Nat.le_trans (Nat.le_trans HO6.out.size (Nat.le_trans HX7.out.size HOD.out.size)) e))
      clear hg hc9 ho9 hn9;go_wp2_with fail;go_ret2;rw[HRE.out];exact Z1f.of_some ⟨cv9,rfl,HM9.out,HC9.out,HO9.out,HN9.out⟩
theorem runM_any(h:Z2x w0 w E K s)(hC:CchM w K cb cv C)(hW:Z0w E o is)(hI:BInv E s)(hL:Z3i E)(hT:E.T.length≤1000000)(hcb:w0.heap.size≤cb∨K.q cb)(hcl:cb<w.heap.size)(z:Int) :
  Calls Tryz.prog 57 #[PTR K.b,I z] w (Z1f w0 w E K cb cv (runZ E C s z).1 (runZ E C s z).2.1 (runZ E C s z).2.2):=by
 by_cases hz:∃i:Nat,z=(i:Int)∧i∈E.sm∧Z0n E s i=true
 ·obtain⟨i,rfl,hi,hr⟩:=hz
  rw[Z7d hi];exact Zli h hC hW hI hL hT hcb hcl hi hr
 ·exact runM_not h hC hW hI z hz
end
noncomputable def Z4h(E:BE)(x:BS×CS)(i:Nat):BS×CS:=((runZ E x.2 x.1 (i:Int)).2.1,(runZ E x.2 x.1 (i:Int)).2.2)
def Beside(K:MK)(cb lo:Nat)(R:World→Prop):Prop:=∀(w w':World)(q:Nat→Prop),R w→Only q w w'→(∀i,q i→InM K i∨i=cb∨lo≤i)→R w'
structure MSt(w0:World)(E:BE)(K:MK)(cb:Nat)(R:World→Prop)(cv:Value)(x:BS×CS)(w:World):Prop where
 bld:Z2x w0 w E K x.1
 inv:BInv E x.1
 cch:CchM w K cb cv x.2
 lt:∀i,cv.ownBlock=some i→i<w.heap.size
 rest:R w
section
variable {w0 w w':World}{E:BE}{K:MK}{o:List Nat}{is:Nat→Bool}{cb lo:Nat}{cv:Value}{R:World→Prop}{x:BS×CS}
theorem MSt.grow(h:MSt w0 E K cb R cv x w)(hR:Beside K cb lo R)(ho:Ext w w'):MSt w0 E K cb R cv x w':=
 ⟨h.bld.grow ho,h.inv,h.cch.ext ho,fun i e=>Nat.lt_of_lt_of_le (h.lt i e) ho.size,hR _ _ _ h.rest ho (fun _ h=>h.elim)⟩
theorem MSt.other{q:Nat→Prop}(h:MSt w0 E K cb R cv x w)(hR:Beside K cb lo R)(ho:Only q w w')(hq:∀i,q i→lo≤i∧w0.heap.size≤i∧¬InMA K i∧i≠cb∧cv.ownBlock≠some i):MSt w0 E K cb R cv x w':=
 ⟨h.bld.later ho (fun i e=>(hq i e).2.1) (fun i hi e=>(hq i e).2.2.1 hi),h.inv,by
  obtain⟨s,C⟩:=x;cases C with
  | none=>exact h.cch
  | some p=>
   obtain⟨many,L⟩:=p;obtain⟨h1,h2,h3⟩:=h.cch;exact⟨h1,h2.later ho (fun e=>(hq _ e).2.2.2.1 rfl) (fun i e e2=>(hq i e2).2.2.2.2 e),h3⟩,fun i e=>Nat.lt_of_lt_of_le (h.lt i e) ho.size,hR _ _ _ h.rest ho (fun i e=>.inr (.inr (hq i e).1))⟩
theorem MSt.run(h:MSt w0 E K cb R cv x w)(hR:Beside K cb lo R)(hW:Z0w E o is)(hL:Z3i E)(hT:E.T.length≤1000000)(hcb:w0.heap.size≤cb∨K.q cb)(hcl:cb<w.heap.size)(z:Int) :
  Calls Tryz.prog 57 #[PTR K.b,I z] w (fun e w'=>∃cv',e=.returned (.tuple #[.bool (runZ E x.2 x.1 z).1.1,IN (runZ E x.2 x.1 z).1.2])∧MSt w0 E K cb R cv' ((runZ E x.2 x.1 z).2.1,(runZ E x.2 x.1 z).2.2) w'∧Only (fun i=>InM K i∨i=cb) w w'∧∀i,cv'.ownBlock=some i→cv.ownBlock=some i∨w.heap.size≤i):=by
 refine(runM_any h.bld h.cch hW h.inv hL hT hcb hcl z).mono ?_;rintro e w' ⟨cv',rfl,h1,h2,h3,h4⟩;exact⟨cv',rfl,⟨h1,hW.runZ h.inv _ z,h2,fun i e=>(h4 i e).elim (fun e=>Nat.lt_of_lt_of_le (h.lt i e) h3.size) (·.2),hR _ _ _ h.rest h3 (fun i e=>e.elim .inl fun e=>.inr (.inl e))⟩,h3,fun i e=>(h4 i e).imp id (·.1)⟩
def RetAllM(w0:World)(E:BE)(K:MK)(cb:Nat)(R:World→Prop)(cv:Value)(x0:BS×CS)(w:World)(e:Ending)(w':World):Prop:=
 ∃v o y cv',e=.returned v∧RowI w.heap.size w' v o∧MSt w0 E K cb R cv' y w'∧Z78 E (·.1) (Z4h E) x0 o y∧Only (fun i=>InM K i∨i=cb) w w'∧o.length≤1000∧∀i,cv'.ownBlock=some i→v.ownBlock≠some i∧(cv.ownBlock=some i∨w.heap.size≤i)
theorem allM_any(h:MSt w0 E K cb R cv x w)(hR:Beside K cb lo R)(hW:Z0w E o is)(hL:Z3i E)(hT:E.T.length≤1000000)(hcb:w0.heap.size≤cb∨K.q cb)(hcl:cb<w.heap.size)(hlo:lo≤w.heap.size) :
  Calls Tryz.prog 60 #[PTR K.b] w (RetAllM w0 E K cb R cv x w):=by
 have H0:=Q0 h;have HB:=Q0 hR;have HW:=Q0 hW;have HL:=Q0 hL;have HT:=Q0 hT;have HCB:=Q0 hcb;obtain⟨ws,hws⟩:∃ws,ws=w.heap.size:=⟨_,rfl⟩;have HWS:=Q0 hws;have HCL:Hid (∀i,InMA K i∨i=cb→i<ws):=Q0 (fun i hi=>by
  rw[hws];rcases hi with e|e
  ·exact h.bld.lt i e
  ·omega)
 have HLO:Hid (lo≤ws∧w0.heap.size≤ws):=Q0 ⟨by omega,by rw[hws];exact h.bld.ext.size⟩
 have HCV:Hid (∀i,cv.ownBlock=some i→(Value.slice none 0 0).ownBlock≠some i∧(cv.ownBlock=some i∨ws≤i)):=Q0 (fun i e=>⟨fun e2=>(by cases e2),.inl e⟩)
 have HCV0:=Q0 (fun i e=>(show i<ws from by rw[hws];exact h.lt i e))
 clear h hR hW hL hT hcb hcl hws hlo;go_enter Tryz.func60,Tryz.ntmps60;go_wp2_with fail;go_loopg [3,4] (E.sm.length-ranN E x.1) (fun g q l wr=>∃(y:BS×CS)(out:List Nat)(qv cv':Value),qv=q∧E.sm.length-ranN E y.1=g∧Hid (MSt w0 E K cb R cv' y wr)∧Hid (RowI ws wr qv out)∧Hid (ws≤wr.heap.size)∧Hid (Only (fun i=>InM K i∨i=cb) w wr)∧Hid (out.length≤ranN E y.1)∧Hid (∀o' z,Z78 E (·.1) (Z4h E) y o' z→Z78 E (·.1) (Z4h E) x (out++o') z)∧Hid (∀i,cv'.ownBlock=some i→i<wr.heap.size∧qv.ownBlock≠some i∧(cv.ownBlock=some i∨ws≤i)))
 case atStart=>exact⟨x,[],_,cv,rfl,rfl,H0,Q0 (RowI.nil _ _),Q0 (by rw[HWS.out];exact Nat.le_refl _),Q0 (Only.refl _ _),Q0 (Nat.zero_le _),Q0 (fun _ _ h=>h),Q0 (fun i e=>⟨by rw[←HWS.out];exact HCV0.out i e,HCV.out i e⟩)⟩
 case round=>
  clear H0 HCV HCV0;obtain⟨y,out,qv,cv',rfl,hg,HS,HR,HSZ,HO,HLN,HTO,HCV⟩:=hrel;have HG:=Q0 hg;clear hg;have HRL:=Q0 (Zi6 HS.out.bld HW.out HS.out.inv);obtain⟨rl,hrl⟩:∃rl,rl=Z37 E y.1:=⟨_,rfl⟩;rw[←hrl]at HRL;have HRQ:=Q0 hrl;clear hrl;go_wp2_with fail;refine HRL.out.mono ?_;rintro e w7 ⟨v7,rfl,hr7,ho7⟩;have HS7:=Q0 (HS.out.grow HB.out ho7);have HR7:=Q0 (HR.out.ext ho7);have HSZ7:Hid (ws≤w7.heap.size):=Q0 (Nat.le_trans HSZ.out ho7.size);have HO7:=Q0 (Only.ext HO.out ho7);have HQ7:Hid (RowI wr.heap.size w7 v7 rl):=Q0 hr7;have HCV7:Hid (∀i,cv'.ownBlock=some i→i<w7.heap.size∧qv.ownBlock≠some i∧(cv.ownBlock=some i∨ws≤i)):=Q0 (fun i e=>⟨Nat.lt_of_lt_of_le (HCV.out i e).1 ho7.size,(HCV.out i e).2⟩)
  have HQL:Hid (∀i,qv.ownBlock=some i→i<wr.heap.size):=Q0 (fun i e=>(HR.out.lt i e).2)
  have hol:out.length≤1000:=by
   have:=HLN.out
   have:=Zi9 E y.1
   have:=HL.out.few
   omega
  have HOL:=Q0 hol;obtain⟨a7,p7,rfl,_,_,hc7⟩:=hr7.rd;clear hr7 ho7 HS HR HO HRL HCV hol;rcases rl with _|⟨k,rl⟩
  ·have hlz:((([]:List Nat).length:Int)==0)=true:=rfl
   have HE:=Q0 (HTO.out [] y (.stop HRQ.out.symm));rw[List.append_nil]at HE;rw[HWS.out]at HR7;clear hc7;go_wp2_with fail;go_ret;exact⟨_,out,y,cv',rfl,HR7.out,HS7.out,HE.out,HO7.out,HOL.out,fun i e=>by rw[←HWS.out];exact(HCV7.out i e).2⟩
  ·have hlz:(((k :: rl).length:Int)==0)=false:=Q3 (by simp;omega)
   have hlz2:¬((k :: rl).length:Int)=0:=by simp;omega
   have hlz3:(0:Int)<((k :: rl).length:Int):=by simp
   obtain⟨b7,off7,rfl,hcell7⟩:=hc7 (by simp)
   have d7:=hcell7 0 k rfl;rw[Nat.add_zero]at d7;have hkr:k∈Z37 E y.1:=by rw[←HRQ.out];exact .head _
   obtain⟨hkm,hkp⟩:=List.mem_filter.1 hkr;have hran:∀j,ranP (Z4h E y k).1 j=(decide (j=k) || ranP y.1 j):=(Zjw (C:=y.2) hkm hkp).2;have hrm:=Zft HW.out.nodup hkm (Z7u hkp) hran;have hrll:=Zi9 E (Z4h E y k).1;have HME:Hid (E.sm.length-ranN E (Z4h E y k).1<E.sm.length-ranN E y.1):=Q0 (by omega)
   have HLN2:Hid ((out++[k]).length≤ranN E (Z4h E y k).1):=Q0 (by
    have:=HLN.out
    rw[List.length_append];simp;omega)
   have HTO2:Hid (∀o' z,Z78 E (·.1) (Z4h E) (Z4h E y k) o' z→Z78 E (·.1) (Z4h E) x ((out++[k])++o') z):=Q0 (fun o' z h=>by
    rw[List.append_assoc];exact HTO.out (k :: o') z (.more HRQ.out.symm h))
   have hrun:=HS7.out.run HB.out HW.out HL.out HT.out HCB.out (by have:=HCL.out cb (.inr rfl);have:=HSZ7.out;omega) (k:Int)
   rw[(Zjw (C:=y.2) hkm hkp).1]at hrun;generalize (runZ E y.2 y.1 (k:Int)).1.1=bb at hrun;have HRUN:=Q0 hrun;have HOL2:Hid (out.length≤1000000):=Q0 (by have:=HOL.out;omega)
   clear hcell7 hkr hkm hkp hran hrm hrll hc7 hrun;go_wp2_with fail;refine HRUN.out.mono ?_;rintro e w9 ⟨cv9,rfl,hs9,ho9,hn9⟩;have HS9:Hid (MSt w0 E K cb R cv9 (Z4h E y k) w9):=Q0 hs9;have HNP:Hid (∀i,InM K i∨i=cb→i<ws):=Q0 (fun i hi=>HCL.out i (hi.imp (fun e=>.inr (.inr (.inr e))) id))
   have HR9:Hid (RowI ws w9 qv out):=Q0 (ho9.row HR7.out (fun i e hi=>by have:=HR7.out.base i e;have:=HNP.out i hi;omega))
   have hq9:RowI wr.heap.size w9 (.slice (some ⟨b7,off7,none⟩) (k :: rl).length p7) (k :: rl):=ho9.row HQ7.out (fun i e hi=>by have:=HQ7.out.base i e;have:=HNP.out i hi;have:=HSZ.out;omega)
   have HSZ9:Hid (ws≤w9.heap.size):=Q0 (Nat.le_trans HSZ7.out ho9.size);have HO9:=Q0 (HO7.out.then ho9);have HCV9:Hid (∀i,cv9.ownBlock=some i→qv.ownBlock≠some i∧(cv.ownBlock=some i∨ws≤i)):=Q0 (fun i e=>by
    rcases hn9 i e with e2|e2
    ·exact(HCV7.out i e2).2
    ·refine⟨fun e3=>?_,.inr (Nat.le_trans HSZ7.out e2)⟩
     have h1:=(HR7.out.lt i e3).2;omega)
   have HCL9:Hid (∀i,cv9.ownBlock=some i→i<w9.heap.size):=Q0 hs9.lt
   obtain⟨a9,p9,hv9,_,_,hc9⟩:=hq9.rd;cases hv9;obtain⟨b9,off9,hb9,hcell9⟩:=hc9 (by simp)
   cases hb9;have d9:=hcell9 0 k rfl;rw[Nat.add_zero]at d9;clear hs9 ho9 hn9 d7 hq9 hc9 hcell9 HRUN;go_wp2_with (at_builtin;refine wpNum2 rfl (.tmp 16) (.tmp 20) ws _ out k w9 rfl rfl rfl rfl HR9.out HOL2.out HSZ9.out ?_;intro g5 cap5 w5 HR5 HG5 HA5;have ho5:=Only.of_grown HG5.out;have HS5:Hid (MSt w0 E K cb R cv9 (Z4h E y k) w5):=Q0 (HS9.out.other HB.out ho5 (fun i e=>by have h1:=HR9.out.base i e;exact⟨Nat.le_trans HLO.out.1 h1,Nat.le_trans HLO.out.2 h1,fun e2=>by have:=HCL.out i (.inl e2);omega,fun e2=>by have:=HCL.out i (.inr e2);omega,fun e2=>(HCV9.out i e2).1 e⟩));have HSZ5:Hid (ws≤w5.heap.size):=Q0 (Nat.le_trans HSZ9.out ho5.size);have HO5:Hid (Only (fun i=>InM K i∨i=cb) w w5):=Q0 (HO9.out.trans ho5 (fun _ _ h=>h) (fun i hi e=>by have:=HR9.out.base i e;have:=HWS.out;omega));have HCV5:Hid (∀i,cv9.ownBlock=some i→i<w5.heap.size∧Value.ownBlock (.slice (some ⟨g5,0,none⟩) (out.length+1) cap5)≠some i∧(cv.ownBlock=some i∨ws≤i)):=Q0 (fun i e=>⟨Nat.lt_of_lt_of_le (HCL9.out i e) ho5.size,fun e2=>by(rcases HA5.out i e2 with e3|e3);exact(HCV9.out i e).1 e3;have:=HCL9.out i e;omega,(HCV9.out i e).2⟩);clear ho5)
   go_roundg (E.sm.length-ranN E (Z4h E y k).1)
   case measure=>rw[←HG.out];exact HME.out
   case rel=>exact⟨Z4h E y k,out++[k],_,cv9,rfl,rfl,HS5,HR5,HSZ5,HO5,HLN2,HTO2,HCV5⟩
end
end Go.Proofs.YtnmhaipjfpongacGreatDoor
