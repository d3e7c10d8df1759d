/- A part of this claim's proof;each theorem bears its own conditions. -/
import Derived.Conc.Holds
import Derived.SevenTiedAt
import Derived.Test.YtnmhaipjfpongacGreatDoorPR21
import Derived.Test.YtnmhaipjfpongacGreatDoorPR19
import Derived.Shelf.SlMaps.Clone
set_option maxRecDepth 100000
set_option maxHeartbeats 8000000
namespace Go.Proofs.YtnmhaipjfpongacGreatDoor
open Go.ChangeShapes Go.WideShapes Go.ChangeAt Go.RowKit
theorem Zlr(L:FL)(p x:B):Z06 L p x≤12:=by
 unfold Z06
 repeat' split
 all_goals omega
section
variable {w0 wr w':World}{b mb m:Nat}{slv:Value}{LT LM:FL}{ha:Nat}{cs:Array Value}{e:TypeId}
end
theorem lens_put{L:FL}(hr:Rising L){n:Nat}(h:∀q∈L,q.1.length≤n)(p x:B)(hp:p.length≤n):∀q∈putT L p x,q.1.length≤n:=by
 intro q hq
 unfold putT at hq;split at hq
 ·rcases Z8y hr hq with rfl|h1
  ·exact hp
  ·exact h q h1
 ·exact h q hq
theorem Zo5{H:Type}{P:Program}{ts:List TypeId}{ds:List (DataW H)}(h:(DataW.weightsEach P ts ds).all (·≤reachBytes)=true){j:Nat}{t:TypeId}{d:DataW H}(ht:ts[j]?=some t)(hd:ds[j]?=some d):∀n∈d.weights P t,n≤140737488351232:=
 fun n hn=>of_decide_eq_true (List.all_eq_true.1 h _ (DataW.weights_mem_each ht hd n hn))
theorem Zbc(Lk:Looks){p:Pinned}{s:OpenSpec}{c:OpenClaim}(kinds:List LaidKind)(tests:Bool)(har:Bool×String)(lk:Bool)(g:Bool)
  (hc:c.holds p s) (hw:c.wfByText s=true) (htie:c.laidByTextAt Lk p kinds tests)
  (hst:c.start=.entering) (hnb:c.noBlocks=false∧c.again=false) (hm:p.checked.prog.mainIs=some (har.1,har.2.toList)) (hn:(!har.1&&har.2.isEmpty&&!lk)=false)
  (hl:∀f fn,p.checked.prog.funcNamed c.func=some f→p.checked.prog.funcs[f]?=some fn→lk=p.checked.prog.looks []∧∀(j:Nat) t,fn.params[j]?=some t→p.checked.prog.wantsStandIn t=false)
  (hg:g=c.goesBy p.checked.prog) :
  Claim7.holds p (.plain s) { stood:={ row:=c,standIns:=[],harness:=har,looks:=lk },kinds:=[],alts:=[],goes:=g,laidByText:=true,laidKinds:=kinds,laidTests:=tests,laidLooks:=Lk }:=by
 have h6:Claim7.isSixth { stood:={ row:=c,standIns:=[],harness:=har,looks:=lk },kinds:=[] }=false:=by simpa [Claim7.isSixth] using hn
 exact⟨Claim7.tied_new_at Lk kinds tests (Claim7.new_of_sixth hc har lk hst hnb hm h6 hl) hw,(fun D hD=>by cases hD),htie,(fun h=>by cases h),hg⟩
theorem Zqe(b off n:Nat):(⟨b,off,none⟩:Addr).add n=⟨b,off+n,none⟩:=by
 unfold Addr.add;split
 ·subst_vars;rfl
 ·rfl
structure Z2l(L:FL):Prop where
 fits:Fits L
 lens:∀q∈L,q.1.length≤1000
theorem Z2l.nil:Z2l []:=⟨Fits.nil,by simp⟩
theorem Z2l.put{L:FL}(h:Z2l L)(p x:B)(hp:p.length≤1000):Z2l (putT L p x):=⟨h.fits.put p x,lens_put h.fits.rising h.lens p x hp⟩
theorem Z2l.bytes{L:FL}(h:Z2l L):∀p s,L.lookup p=some s→s.length≤2000:=fun _ _ hl=>h.fits.bytes _ (Z2g hl)
section
variable {w0 wr w':World}{b mb m:Nat}{slv:Value}{LT LM:FL}
end
theorem Zdo(p q:B)(hp:p≠[]):∀(n:Nat)(s:B),s.length≤n→(Lib.replaceAll s p q).length≤s.length*(1+q.length)
 | 0,s,h=>by
  rw[List.length_eq_zero_iff.1 (Nat.le_zero.1 h),Zdn hp];simp
 | n+1,[],_=>by rw[Zdn hp];simp
 | n+1,c :: r,h=>by
  have hp1:1≤p.length:=List.length_pos_iff.2 hp;cases hh:p.isPrefixOf (c :: r)with
  | true=>
   rw[Zfq hp hh,List.length_append];have hle:((c :: r).drop p.length).length≤r.length:=by rw[List.length_drop,List.length_cons];omega
   have h1:=Zdo p q hp n ((c :: r).drop p.length) (by simp at h;omega)
   have h2:((c :: r).drop p.length).length*(1+q.length)≤r.length*(1+q.length):=Nat.mul_le_mul_right _ hle;have h3:(c :: r).length*(1+q.length)=r.length*(1+q.length)+(1+q.length):=by rw[List.length_cons,Nat.succ_mul]
   omega
  | false=>
   rw[Zfp hp hh,List.length_cons];have h1:=Zdo p q hp n r (by simpa using h)
   have h3:(c :: r).length*(1+q.length)=r.length*(1+q.length)+(1+q.length):=by rw[List.length_cons,Nat.succ_mul]
   omega
theorem Zi3(w:World)(k:Kd)(wd:B)(l:List B)(v:Value)(hk:k≠.write)(hv:Rd S w v l)(hb:Z0h l+l.length≤900000)(hw:wd.length≤1000)(h1:k.least≤l.length)(h2:k.word wd=true) :
  Calls Tryz.prog 171 #[S k.name,S wd,v] w (RetE (S (k.run wd l)) w):=by
 have hx:∀x r,l=x :: r→x.length≤900000:=fun x r e=>by subst e;rw[Z30]at hb;omega
 have he:=kdIs k;cases k with
 | write=>exact absurd rfl hk
 | join=>exact Zoy w _ wd l v he hv h1 hb hw
 | sort=>exact Zox w _ wd l v he hv hb (by
   have h3:(wd==[] || wd==[111,110,99,101])=true:=h2
   rw[Bool.or_eq_true,beq_iff_eq,beq_iff_eq]at h3;exact h3)
 | count=>exact Zme w _ wd l v he hv hb
 | upper=>
  cases l with
  | nil=>simp[Kd.least]at h1
  | cons x r=>exact Zmc w _ wd x r v he hv (hx x r rfl)
 | lines=>
  cases l with
  | nil=>simp[Kd.least]at h1
  | cons x r=>exact Zmd w _ wd x r v he hv (hx x r rfl) hw
 | swap=>
  cases l with
  | nil=>simp[Kd.least]at h1
  | cons x r=>
   have hxl:=hx x r rfl;refine Zow w _ wd x r v he hv hxl hw h2 ?_;have h3:=Zdo (cut1 61 wd).1 (cut1 61 wd).2.1 (Zdv h2) x.length x (Nat.le_refl _);have h4:=(Za6 61 wd).2;have h5:x.length*(1+(cut1 61 wd).2.1.length)≤900000*1001:=Nat.mul_le_mul hxl (by omega)
   omega
 | head=>
  cases l with
  | nil=>simp[Kd.least]at h1
  | cons x r=>
   obtain⟨n,hn⟩:=Option.isSome_iff_exists.1 h2;have:=Zoz w _ wd x r v n he hv (hx x r rfl) hw hn;show Calls _ _ _ _ (RetE (S (Z05 ((Z0t x).take ((numB 3 wd).getD 0)))) w)
   rw[hn];exact this
theorem Zhf(w:World)(name wd:B)(l:List B)(v:Value)(hv:Rd S w v l)(hb:Z0h l+l.length≤900000)(hw:wd.length≤1000) :
  Calls Tryz.prog 97 #[S name,S wd,v] w (RetE (.tuple #[S (Z17 name wd l),I (Z0f name wd l)]) w):=by
 have HE:=Q0 (Z9r w name wd l.length (by omega))
 cases hc:Z1b name wd l.length with
 | succ c=>
  have e1:Z0f name wd l=c+1:=by unfold Z0f;rw[hc,if_neg (Nat.succ_ne_zero _)]
  have e2:Z17 name wd l=[]:=by unfold Z17;rw[e1,if_neg (Nat.succ_ne_zero _)]
  rw[e1,e2];rw[hc]at HE;obtain⟨a,cap,rfl,_,_,_⟩:=hv;have hcz:(0:Int)<((c+1:Nat):Int):=by omega
  generalize ((c+1:Nat):Int)=z at *;clear e1 e2 hc hb hw;go_enter Tryz.func97,Tryz.ntmps97;go_wp2_with fail;refine(HE.out).mono ?_;rintro e w1 ⟨rfl,ho⟩;have HO:=Q0 ho;clear ho;go_wp2_with fail;go_ret2;exact⟨rfl,HO.out⟩
 | zero=>
  obtain⟨k,hk,h1,h2,h3⟩:=Z6r hc;obtain rfl:=Zgm hk;have e0:Zda k.name wd l=k.run wd l:=by unfold Zda;rw[hk]
  have e1:Z0f k.name wd l=if 2000<(k.run wd l).length then 10 else 0:=by unfold Z0f;rw[hc,if_pos rfl,e0]
  have e2:Z17 k.name wd l=if 2000<(k.run wd l).length then []else k.run wd l:=by
   unfold Z17;rw[e1,e0];by_cases h:2000<(k.run wd l).length
   ·rw[if_pos h,if_pos h,if_neg (by decide)]
   ·rw[if_neg h,if_neg h,if_pos rfl]
  rw[e1,e2];rw[hc]at HE;by_cases hwr:k=.write
  ·subst hwr
   show Calls _ _ _ _ (RetE (.tuple #[S (if 2000<wd.length then []else wd),I (if 2000<wd.length then 10 else 0:Nat)]) w)
   rw[if_neg (by omega),if_neg (by omega)]
   have hlz:¬(2000:Int)<(wd.length:Int):=by omega
   obtain⟨_,_,_,_,_,_,_,e8⟩:=kdIs .write
   change _=true at e8
   obtain⟨a,cap,rfl,_,_,_⟩:=hv;generalize Kd.write.name=nm at *;clear e0 e1 e2 hk h1 h2 h3 hc hb hw;go_enter Tryz.func97,Tryz.ntmps97;go_wp2_with fail;refine(HE.out).mono ?_;rintro e w1 ⟨rfl,ho⟩;have HO:=Q0 ho;clear ho;go_wp2_with fail;go_ret2;exact⟨rfl,HO.out⟩
  ·have HM:=Q0 (fun W (hW:Ext w W)=>Zi3 W k wd l v hwr (hv.ext hW) hb hw h1 h2)
   obtain⟨_,_,_,_,_,_,_,e8⟩:=kdIs k;have e9:Kd.isN 7 k=false:=by cases k <;> first|rfl|exact absurd rfl hwr
   rw[e9]at e8;obtain⟨a,cap,rfl,_,_,_⟩:=hv;generalize k.run wd l=out at *;generalize k.name=nm at *;clear e0 e1 e2 hk h1 h2 h3 hc hb hw e9 hwr;by_cases hl:2000<out.length
   ·rw[if_pos hl,if_pos hl]
    have hlz:(2000:Int)<(out.length:Int):=by omega
    clear hl;go_enter Tryz.func97,Tryz.ntmps97;go_wp2_with fail;refine(HE.out).mono ?_;rintro e w1 ⟨rfl,ho⟩;have HO:=Q0 ho;clear ho;go_wp2_with fail;refine(HM.out _ HO.out).mono ?_;rintro e w2 ⟨rfl,ho⟩;have HO2:=Q0 (HO.out.then ho);clear ho;go_wp2_with fail;go_ret2;exact⟨rfl,HO2.out⟩
   ·rw[if_neg hl,if_neg hl]
    have hlz:¬(2000:Int)<(out.length:Int):=by omega
    clear hl;go_enter Tryz.func97,Tryz.ntmps97;go_wp2_with fail;refine(HE.out).mono ?_;rintro e w1 ⟨rfl,ho⟩;have HO:=Q0 ho;clear ho;go_wp2_with fail;refine(HM.out _ HO.out).mono ?_;rintro e w2 ⟨rfl,ho⟩;have HO2:=Q0 (HO.out.then ho);clear ho;go_wp2_with fail;go_ret2;exact⟨rfl,HO2.out⟩
theorem Znl{l:List B}(h:∀x∈l,x.length≤2000):Z0h l≤l.length*2000:=by
 induction l with
 | nil=>simp[Z0h]
 | cons x l ih=>
  rw[Z30,List.length_cons,Nat.succ_mul];have:=ih fun y hy=>h y (.tail _ hy)
  have:=h x (.head _)
  omega
def Zl1(x:Tld)(w:World)(e:Ending)(w':World):Prop:=e=.returned (.tuple #[S x.1,IN x.2])∧Ext w w'
theorem Za4(T:FL)(p:B):(∃(k:Nat)(q:B×B),fndT T p=(k:Int)∧T[k]?=some q∧T.lookup p=some q.2)∨(fndT T p=-1∧T.lookup p=none):=by
 unfold fndT;induction T with
 | nil=>exact .inr ⟨rfl,rfl⟩
 | cons q T ih=>
  obtain⟨a,x⟩:=q;rw[List.findIdx?_cons,List.lookup_cons];by_cases h:a=p
  ·subst h
   exact .inl ⟨0,(a,x),by simp,rfl,by simp⟩
  ·have h1:(a==p)=false:=Q3 h
   have h2:(p==a)=false:=Q3 (Ne.symm h)
   simp only[h1,h2];rcases ih with⟨k,q,h3,h4,h5⟩|⟨h3,h4⟩
   ·refine .inl ⟨k+1,q,?_,by simpa using h4,h5⟩
    cases hf:T.findIdx? (fun p_1=>p_1.1==p)with
    | none=>rw[hf]at h3;simp at h3
    | some j=>
     rw[hf]at h3;have h6:(j:Int)=(k:Int):=by simpa using h3
     obtain rfl:j=k:=by omega
     simp
   ·refine .inr ⟨?_,h4⟩
    cases hf:T.findIdx? (fun p_1=>p_1.1==p)with
    | none=>simp
    | some j=>rw[hf]at h3;simp at h3
theorem Zl9(w0:World)(mb:Nat)(slv lv:Value)(l:List Rule)(T:FL)(W:B→Tld)(n:Nat)(D:B→Prop)(rk:B→Nat)(hS:Asks l T W D rk)(hO:∀p,Zjj (W p))
  (hl:RdR w0 lv l) (hll:l.length≤1000) (hw:∀r∈l,r.ins.length≤12∧r.word.length≤1000) (hm:w0.heap[mb]?=some (.cells #[slv] 147 (0,0))) (hr:RdS 2 encF w0 slv T) (hT:T.length≤1000000)
  (hof:∀p,D p→rk p<n→∀w,Ext w0 w→Calls Tryz.prog 22 #[.pointer (some ⟨mb,0,none⟩),lv,S p] w (Zl1 (W p) w))
  (p:B) (hp:D p) (hrk:rk p<n+1) (w:World) (hx:Ext w0 w) :
  Calls Tryz.prog 22 #[.pointer (some ⟨mb,0,none⟩),lv,S p] w (Zl1 (W p) w):=by
 have HRD:=Q0 hl;have HX0:=Q0 hx;have HOF:=Q0 hof;have HW:=Q0 hw;have HOK:=Q0 hO;have HM:=Q0 hm;have HRT:=Q0 hr;have hst:=hS.step p hp;have HDN:=Q0 (fun r (hr:Z2k l p=some r) q (hq:q∈r.ins)=>(show D q∧rk q<n from by
  obtain⟨h1,h2⟩:=hS.down p hp r hr q hq;exact⟨h1,by omega⟩))
 obtain⟨X,hX⟩:∃X,X=W p:=⟨_,rfl⟩;rw[←hX];have HWP:Hid (X=Z7a l T W p):=Q0 (by rw[hX];exact hst)
 have HFD:=Q0 (fun w1 (hx1:Ext w w1)=>Z4a w1 mb slv T p ((hx.then hx1).heapOf hm (fun h=>h)) (hr.ext (hx.then hx1)) hT)
 obtain⟨a,cap,rfl,_,_,hc⟩:=hl;have HC:=Q0 hc;clear hS hO hw hm hr hof hst hX hc hx hrk hp;go_enter Tryz.func22,Tryz.ntmps22;go_wp2_with fail;go_loopw [8,9,10,11,12] (fun i _ _ _ _ wr=>∃j:Nat,j≤l.length∧i=.int .i64 j∧Hid (∀t q,t<j→l[t]?=some q→(q.out==p)=false)∧Hid (Ext w wr)) (fun i _ _ _ _ _=>l.length-(intOf i).toNat)
 case atStart=>exact⟨0,Nat.zero_le _,rfl,Q0 (fun t q h=>absurd h (Nat.not_lt_zero _)),Q0 (Only.refl _ _)⟩
 case round=>
  obtain⟨j,hj,rfl,HB,HX⟩:=hrel;by_cases hlt:j<l.length
  ·have hltz:(j:Int)<(l.length:Int):=by omega
   have hj0:(0:Int)≤(j:Int):=by omega
   have hj1:¬(j:Int)<0:=by omega
   have hj2:¬(l.length:Int)≤(j:Int):=by omega
   obtain⟨b,off,rfl,hcell⟩:=HC.out (by intro h;rw[h]at hlt;simp at hlt)
   obtain⟨r,hq⟩:∃y,l[j]?=some y:=⟨_,Q1 hlt⟩;obtain⟨u,hu,c0,c1,c2,c3⟩:=hcell j r hq;have hxw:=HX0.out.then HX.out;have d0:=hxw.cellOf c0 (fun h=>h)
   have HC1:=Q0 c1;have HC2:=Q0 c2;have HC3:=Q0 c3;have HQ:=Q0 hq;have HLT:=Q0 hlt;clear hcell hq c0 c1 c2 c3 hlt hxw;cases heq:r.out==p with
   | false=>
    have HB2:Hid (∀t q,t<j+1→l[t]?=some q→(q.out==p)=false):=Q0 (fun t q ht hq=>by
     rcases Nat.lt_succ_iff_lt_or_eq.1 ht with h|rfl
     ·exact HB.out t q h hq
     ·rw[HQ.out]at hq;cases hq;exact heq)
    clear hu;go_wp2_with fail;go_roundw
    case rel=>exact⟨j+1,HLT.out,by go_num,HB2,HX⟩
    case measure=>have:=HLT.out;simp[intOf];omega
   | true=>
    have hro:Z2k l p=some r:=by
     unfold Z2k;rw[List.find?_eq_some_iff_getElem];refine⟨heq,j,HLT.out,(Q2 HQ.out).2,fun t ht=>?_⟩
     rw[HB.out t _ ht (Q1 (by have:=HLT.out;omega))]
     rfl
    have HXW:Hid (X=Z7o W r):=Q0 (by rw[HWP.out];unfold Z7a;rw[hro])
    have HDQ:=Q0 (fun q (hq:q∈r.ins)=>HDN.out r hro q hq)
    obtain⟨hr12,hrw⟩:=HW.out r (Q4 HQ.out);have hrz:(r.ins.length:Int)≤12:=by omega
    have HRW:=Q0 hrw;obtain⟨au,cu,rfl,_,_,hcu⟩:=hu;have HCU:=Q0 hcu;obtain⟨bs,hbs⟩:∃bs,bs=wr.heap.size:=⟨_,rfl⟩;have HBS:Hid (w.heap.size≤bs∧bs≤wr.heap.size):=Q0 ⟨by rw[hbs];exact HX.out.size,by omega⟩
    clear hro hrw hcu hbs HFD HDN;go_wp2_with fail;go_loopw [9,10,11,12] (fun q i _ _ wx=>∃(k:Nat)(qv:Value),k≤r.ins.length∧qv=q∧i=.int .i64 k∧Hid (Row bs wx qv ((r.ins.take k).map fun q=>(W q).1))∧Hid (∀q∈r.ins.take k,(W q).2=0)∧Hid (Ext w wx)∧Hid (bs≤wx.heap.size)) (fun _ i _ _ _=>r.ins.length-(intOf i).toNat)
    case atStart=>exact⟨0,_,Nat.zero_le _,rfl,rfl,Q0 (Row.nil _ _),Q0 (by simp),HX,Q0 HBS.out.2⟩
    case round=>
     clear HX;obtain⟨k,qv,hk,rfl,rfl,HR,HZ,HX,HSZ⟩:=hrel;have hxw:=HX0.out.then HX.out;have d3:=hxw.cellOf HC3.out (fun h=>h)
     by_cases hkl:k<r.ins.length
     ·have hkz:(k:Int)<(r.ins.length:Int):=by omega
      have hk0:(0:Int)≤(k:Int):=by omega
      have hk1:¬(k:Int)<0:=by omega
      have hk2:¬(r.ins.length:Int)≤(k:Int):=by omega
      obtain⟨bu,ou,rfl,hcellu⟩:=HCU.out (by intro h;rw[h]at hkl;simp at hkl)
      obtain⟨q,hqq⟩:∃y,r.ins[k]?=some y:=⟨_,Q1 hkl⟩;have d4:=hxw.cellOf (hcellu k q hqq) (fun h=>h)
      obtain⟨hdq,hrq⟩:=HDQ.out q (Q4 hqq);have HCL:=Q0 (HOF.out q hdq hrq wr hxw);have HQQ:=Q0 hqq;have HOQ:=Q0 (HOK.out q);have HKL:=Q0 hkl;clear hcellu hqq hdq hrq hkl hxw;by_cases h0:(W q).2=0
      ·have HTK:Hid ((r.ins.take (k+1)).map (fun q=>(W q).1)=(r.ins.take k).map (fun q=>(W q).1)++[(W q).1]):=Q0 (by rw[List.take_add_one,HQQ.out];simp)
       have HZ2:Hid (∀x∈r.ins.take (k+1),(W x).2=0):=Q0 (fun x hx=>by
        rw[List.take_add_one,HQQ.out]at hx;rcases List.mem_append.1 hx with hx|hx
        ·exact HZ.out x hx
        ·rw[Option.toList_some,List.mem_singleton]at hx;rw[hx];exact h0)
       have hrl:((r.ins.take k).map fun q=>(W q).1).length≤1000000:=by rw[List.length_map,List.length_take];omega
       have HRL:=Q0 hrl;rw[show W q=((W q).1,0) from Prod.ext rfl h0]at HCL
       generalize (r.ins.take k).map (fun q=>(W q).1)=Z at HR HTK HRL
       generalize (W q).1=y at HCL HTK;clear h0 hrl HOQ;go_wp2_with fail;refine HCL.out.mono ?_;rintro e w3 ⟨rfl,ho⟩;have HX3:=Q0 (HX.out.then ho);have HR3:=Q0 (HR.out.ext ho);have HSZ3:Hid (bs≤w3.heap.size):=Q0 (Nat.le_trans HSZ.out ho.size);clear ho d3 d4;go_wp2_with (at_builtin;refine Z2t rfl (.tmp 54) (.tmp 56) w bs _ Z y w3 rfl rfl rfl rfl HR3.out HRL.out HSZ3.out HX3.out HBS.out.1 ?_;intro g5 cap5 w5 HR5 HX5 HG5;have HSZ5:Hid (bs≤w5.heap.size):=Q0 (Nat.le_trans HSZ3.out (Only.of_grown HG5.out).size));go_roundw
       case rel=>exact⟨k+1,_,HKL.out,rfl,by go_num,by rw[HTK.out];exact HR5,HZ2,HX5,HSZ5⟩
       case measure=>have:=HKL.out;simp[intOf];omega
      ·have hXq:X=W q:=by rw[HXW.out];exact Za0 HQQ.out h0 HZ.out
       have hy:(W q).1=[]:=HOQ.out.zero h0
       rw[←hXq]at HCL hy h0;obtain⟨x1,x2⟩:=X;have hy2:x1=[]:=hy;subst hy2;have hxz:(0:Int)<(x2:Int):=by
        have:x2≠0:=h0
        omega
       clear hXq hy h0 HOQ;go_wp2_with fail;refine HCL.out.mono ?_;rintro e w3 ⟨rfl,ho⟩;have HX3:=Q0 (HX.out.then ho);clear ho d3 d4;go_wp2_with fail;go_ret2;exact⟨rfl,HX3.out⟩
     ·have hkz:¬(k:Int)<(r.ins.length:Int):=by omega
      have hkk:k=r.ins.length:=by omega
      subst hkk;rw[List.take_length]at HR HZ;obtain⟨Z,hZ⟩:∃Z,Z=r.ins.map fun q=>(W q).1:=⟨_,rfl⟩
      have hXr:X=(Z17 r.kind r.word Z,Z0f r.kind r.word Z):=by rw[HXW.out,hZ];exact Ze2 HZ.out
      have hsum:Z0h Z+Z.length≤900000:=by
       have h1:=Znl (l:=Z) (fun x hx=>by
        rw[hZ]at hx;obtain⟨q,_,rfl⟩:=List.mem_map.1 hx;exact(HOK.out q).len)
       have h2:Z.length=r.ins.length:=by rw[hZ,List.length_map]
       omega
      rw[←hZ]at HR;have HACT:=Q0 (fun(wq:World) (hx:Ext wr wq)=>Zhf wq r.kind r.word Z qv (HR.out.rd.ext hx) hsum HRW.out)
      obtain⟨x1,x2⟩:=X;rw[←show x1=Z17 r.kind r.word Z from congrArg Prod.fst hXr,←show x2=Z0f r.kind r.word Z from congrArg Prod.snd hXr]at HACT
      obtain⟨av,cv,rfl,_,_,_⟩:=HR.out.rd;have k1:=hxw.cellOf HC1.out (fun h=>h)
      have k2:=hxw.cellOf HC2.out (fun h=>h)
      generalize Z.length=zl at *;generalize r.kind=kd at *;generalize r.word=wd at *;have HK1:=Q0 k1;have HK2:=Q0 k2;clear hXr hsum hkl hk hxw HR HZ HXW HWP hZ;go_wp2_with fail;go_region_held3 (fun w'=>w'.cell? ⟨b,off+j*4+1,none⟩=some (S kd)∧w'.cell? ⟨b,off+j*4+2,none⟩=some (S wd)) (first|exact⟨HX5.out.cellOf HK1.out (fun h=>h),HX5.out.cellOf HK2.out (fun h=>h)⟩|exact⟨k1,k2⟩|go_keep)
       ((go_at_call 97;refine(HACT.out _ (by first|exact Only.refl _ _|exact Only.drew _ _|exact Only.drewN _ _ _)).mono ?_;rintro e w5 ⟨rfl,ho⟩;have HX5:Hid (Ext wr w5):=Q0 (Only.ext (by first|exact Only.refl _ _|exact Only.drew _ _|exact Only.drewN _ _ _) ho);clear ho))
      all_goals
       go_wp2_with fail;go_ret2
       exact⟨rfl,HX.out.then HX5.out⟩
  ·have hltz:¬(j:Int)<(l.length:Int):=by omega
   have hro:Z2k l p=none:=by
    unfold Z2k;rw[List.find?_eq_none];intro q hq;obtain⟨t,ht⟩:=List.getElem?_of_mem hq;rw[HB.out t q (by have:=(Q2 ht).1;omega) ht]
    decide
   have HXL:Hid (X=Z7p T p):=Q0 (by rw[HWP.out];unfold Z7a;rw[hro])
   have HFN:=Q0 (HFD.out wr HX.out);clear hro hlt hj HFD;rcases Za4 T p with⟨k,q,h1,h2,h3⟩|⟨h1,h3⟩
   ·rw[h1]at HFN
    have hXv:X=(q.2,0):=by rw[HXL.out];unfold Z7p;rw[h3]
    subst hXv;have hk0:¬(k:Int)<0:=by omega
    clear h1 h3;go_wp2_with fail;refine HFN.out.mono ?_;rintro e w3 ⟨rfl,rfl⟩;have hxw:=HX0.out.then HX.out;have m0:=hxw.cellOf ((Z00 HM.out 0).trans (rfl:_=some slv)) (fun h=>h)
    obtain⟨aT,cT,hsl,_,_,hcT⟩:=HRT.out;have hkl:=(Q2 h2).1;obtain⟨bT,oT,rfl,hcellT⟩:=hcT (by intro h;rw[h]at hkl;simp at hkl)
    subst hsl;have t1:=hxw.cellOf (hcellT k q h2 1 (S q.2) rfl) (fun h=>h)
    have hkz:(k:Int)<(T.length:Int):=by omega
    have hk1:(0:Int)≤(k:Int):=by omega
    have hk2:¬(T.length:Int)≤(k:Int):=by omega
    clear hcT hcellT h2 hkl hxw;go_wp2_with fail;go_ret2;exact⟨rfl,HX.out⟩
   ·rw[h1]at HFN
    have hXv:X=([],6):=by rw[HXL.out];unfold Z7p;rw[h3]
    subst hXv;clear h1 h3;go_wp2_with fail;refine HFN.out.mono ?_;rintro e w3 ⟨rfl,rfl⟩;go_wp2_with fail;go_ret2;exact⟨rfl,HX.out⟩
theorem Zf9(w0:World)(mb:Nat)(slv lv:Value)(l:List Rule)(T:FL)(W:B→Tld)(D:B→Prop)(rk:B→Nat)(hS:Asks l T W D rk)(hO:∀p,Zjj (W p))
  (hl:RdR w0 lv l) (hll:l.length≤1000) (hw:∀r∈l,r.ins.length≤12∧r.word.length≤1000) (hm:w0.heap[mb]?=some (.cells #[slv] 147 (0,0))) (hr:RdS 2 encF w0 slv T) (hT:T.length≤1000000) :
  ∀(n:Nat)(p:B),D p→rk p<n→∀w,Ext w0 w→Calls Tryz.prog 22 #[.pointer (some ⟨mb,0,none⟩),lv,S p] w (Zl1 (W p) w)
 | 0,_,_,h=>by omega
 | n+1,p,hp,hrk=>fun w hx=>Zl9 w0 mb slv lv l T W n D rk hS hO hl hll hw hm hr hT (fun q hq hrq=>Zf9 w0 mb slv lv l T W D rk hS hO hl hll hw hm hr hT n q hq hrq) p hp hrk w hx
theorem Ze0(b:Nat)(es:Array MapEntry)(clock:Nat)(w:World)(hb:w.heap[b]?=some (.map es clock)) :
  Calls Tryz.prog 173 #[.map (some b)] w fun e w'=>e=.returned (.map (some w.heap.size))∧w'=w.alloc (.map es clock):=by
 have hq:=fun w=>run_eql_map_nil_sl (P:=Tryz.prog) w 171 _ _ (some b) Tryz.underlying171
 go_enter Tryz.func173,Tryz.ntmps173
 go_wp2
 rw[run_callFunc_extern Tryz.func224 (by kernel_rfl) (by kernel_rfl) (by kernel_rfl) (e:=Extern.MapsClone.clone) (by kernel_rfl),run_maps_clone_sl w 171 hb]
 simp only[Result.andThen];rw[Oper.upon_value];go_wp2;rw[run_typeAssert_map_sl _ 171 _ _ _ _ Tryz.underlying171];simp only[Result.andThen];rw[Oper.upon_value];go_wp2;go_ret;exact⟨rfl,rfl⟩
def CopyIs(w:World)(L:FL)(e:Ending)(w':World):Prop:=e=.returned (.pointer (some ⟨w.heap.size+1,0,none⟩))∧Z0u w' (w.heap.size+1) w.heap.size L∧Ext w w'∧w'.heap.size=w.heap.size+2
theorem Zfc(w:World)(b mb:Nat)(L:FL)(h:Z0u w b mb L):Calls Tryz.prog 100 #[.pointer (some ⟨b,0,none⟩)] w (CopyIs w L):=by
 have c0:=h.mapCell;obtain⟨es,clock,hb,hp⟩:=h.map;have HC:=Q0 (Ze0 mb es clock w hb);have HM:Hid (KMap .string S S (w.alloc (.map es clock)) w.heap.size L):=Q0 ⟨es,clock,(MapKept.heap_alloc w _).1,hp⟩;clear h hb hp;go_enter Tryz.func100,Tryz.ntmps100;go_wp2_with fail;refine HC.out.mono ?_;rintro e w1 ⟨rfl,rfl⟩;go_wp2_with fail;go_ret;refine⟨by simp,⟨?_,HM.out.later (Only.alloc (fun _=>False) _ _) (fun h=>h)⟩,(Only.alloc _ _ _).thenAlloc _,by simp⟩
 simpa using (MapKept.heap_alloc (w.alloc (.map es clock)) (.cells #[.map (some w.heap.size)] 173 (0,0))).1
theorem Z0k{l:List Rule}(h:(Z0i l).1=0):Z34 l∧Zcq l=some (Z18 l):=by
 unfold Z0i at h;by_cases h0:(Z04 l).1=0
 ·rw[if_neg (by simpa using h0)]at h
  refine⟨Z2e.1 h0,?_⟩;unfold Z18;rw[if_neg (by simpa using h0)]
  cases ho:Zcq l with
  | some o=>rfl
  | none=>rw[ho]at h;cases h
 ·rw[if_pos h0]at h
  exact absurd h h0
section
variable {w5 wr w':World}{P:Nat→Addr}{ab tb kb cb cmb:Nat}{lv:Value}{U U':FL}{W:B→Tld}
end
end Go.Proofs.YtnmhaipjfpongacGreatDoor
