/- A part of this claim's proof;each theorem bears its own conditions. -/
import Derived.Test.YtnmhaipjfpongacGreatDoorPR42
set_option maxRecDepth 100000
set_option maxHeartbeats 8000000
namespace Go.Proofs.YtnmhaipjfpongacGreatDoor
open Go.ChangeShapes Go.WideShapes Go.ChangeAt Go.RowKit
theorem want_in{l:List Rule}{T:FL}(hof:(Z0i l).1=0){out:B}(hm:Z35 l out=true):Za7 l T out=((Z3t l T out).1,((Z3t l T out).2,-1)):=by
 obtain⟨hr,ho⟩:=Z0k hof;unfold Za7;rw[if_neg (by rw[Z2e.2 hr];simp),if_neg (by rw[hm];simp)]
 cases hq:Z7v l (Z2f l [out])with
 | some o2=>rfl
 | none=>
  have hc:=Clo.need l [out];obtain⟨k,s,hk,hks,hs,hw⟩:=Z7x hq (fun a b ha hia hn=>by
   have hb:=(Z5g hn).2;exact⟨hb,by simpa using hc.clos a (by simpa using hia) b hb hn⟩)
  exact absurd hw (Ordered.no_circle (Z1v ho).1 (fun _ _ hn=>(Z5g hn).2) (Z2v ho hk rfl) hs)
def Z16(l:List Rule)(T O:FL)(p:B):Bool:=((O.lookup p).isSome != ((Z3t l T p).2==0)) || ((O.lookup p).isSome&&(O.lookup p).getD [] != (Z3t l T p).1)
def Z26(l:List Rule)(T O:FL):List B:=(l.map Rule.out).filter (Z16 l T O)
section
variable {w0 w:World}{D:Nat→Prop}{n:Nat}{sv lv:Value}{many:Nat}{T O L:FL}{l:List Rule}
theorem Zdd(P:Nat→Addr)(h:Z1a w0 w D n sv lv many T O L l)(hof:(Z0i l).1=0)(hT:Z2l T)(hV:PV w0 P [1,2,3,4,5,6,8,9]) :
  Calls Tryz.prog 40 #[PTR (n+6)] w (Zqg (Z0m (Z26 l T O)) w):=by
 obtain⟨ss,hss⟩:∃ss,ss=Z26 l T O:=⟨_,rfl⟩;rw[←hss];have HSSE:=Q0 hss;clear hss;obtain⟨hR,_⟩:=Z0k hof;have hsh:=Z29 hR;have h40:=hR.1;have HSM:Hid (∀r∈l,Z3z 900000 r):=Q0 (fun r hr=>(hsh r hr).sm)
 have HSH:Hid (∀r∈l,r.ins.length≤12∧r.word.length≤1000):=Q0 (fun r hr=>⟨(hsh r hr).many,by have:=(hsh r hr).word;omega⟩)
 have HOF:=Q0 hof;have HH:=Q0 h;have HV:=Q0 hV;have HT:=Q0 hT.bytes;obtain⟨al,cl,hlv,_,_,_⟩:=h.rules.rd;subst hlv;obtain⟨os,hos⟩:∃os,os=l.map Rule.out:=⟨_,rfl⟩;have HOS:=Q0 hos;have HOL:Hid (os.length≤40):=Q0 (by rw[hos,List.length_map];exact h40)
 clear h hR hsh hof hV hT hos;go_enter Tryz.func40,Tryz.ntmps40;go_wp2_with fail;refine(Z98 HH.out (by omega)).mono ?_
 rintro e w1 ⟨v1,rfl,hr1,ho1⟩;rw[←HOS.out]at hr1;have HO1:=Q0 ho1;obtain⟨a1,c1,rfl,_,_,hc1⟩:=hr1.rd;have HC1:=Q0 hc1;have hoz:(os.length:Int)≤40:=by have:=HOL.out;omega
 obtain⟨bs,hbs⟩:∃bs,bs=w1.heap.size:=⟨_,rfl⟩;have HBS:Hid (w1.heap.size≤bs∧bs≤w1.heap.size):=Q0 ⟨by omega,by omega⟩
 clear hbs;clear hr1 ho1 hc1;go_wp2_with fail;go_loopw [3,5,6,7,8,9,13] (fun q _ _ _ _ _ i wr=>∃(j:Nat)(qv:Value),qv=q∧j≤os.length∧i=.int .i64 j∧Hid (Row bs wr qv ((os.take j).filter (Z16 l T O)))∧Hid (Ext w1 wr)) (fun _ _ _ _ _ _ i _=>os.length-(intOf i).toNat)
 case atStart=>exact⟨0,_,rfl,Nat.zero_le _,rfl,Q0 (Row.nil _ _),Q0 (Only.refl _ _)⟩
 case round=>
  obtain⟨j,qv,rfl,hj,rfl,HQ,HX⟩:=hrel;by_cases hlt:j<os.length
  ·have hltz:(j:Int)<(os.length:Int):=by omega
   have hj0:(0:Int)≤(j:Int):=by omega
   obtain⟨b,off,rfl,hcell⟩:=HC1.out (by intro h;rw[h]at hlt;simp at hlt)
   obtain⟨p,hp⟩:∃y,os[j]?=some y:=⟨_,Q1 hlt⟩;have d0:=HX.out.cellOf (hcell j p hp) (fun h=>h)
   have hyr:=HH.out.grow (HO1.out.then HX.out);have k0:=(hyr.cell 0).trans (rfl:_=some (PTR (n+3)));have k2:=(hyr.cell 2).trans (rfl:_=some (Value.slice al l.length cl));have HK0:=Q0 k0;have HK2:=Q0 k2;have hmade:Z35 l p=true:=by
    have hmem:p∈l.map Rule.out:=HOS.out ▸ Q4 hp;obtain⟨r,hr,rfl⟩:=List.mem_map.1 hmem;exact Zka hr
   have HWA:Hid (∀wq,Ext wr wq→Calls Tryz.prog 18 #[PTR (n+3),.slice al l.length cl,S p] wq (fun e w'=>∃ev,e=.returned (.tuple #[S (Z3t l T p).1,ev])∧Z25 w' P ((Z3t l T p).2,-1) ev∧Ext wr w')):=Q0 (fun wq hq=>by
    have hyq:=hyr.grow hq;refine(Zl8 wq P (n+3) (n+2) T _ l p hyq.tree HT.out hyq.rules.rd HSM.out HSH.out (HV.out.ext hyq.ext)).mono ?_;rintro e w' ⟨ev,rfl,he,hx⟩;rw[want_in HOF.out hmade]at he ⊢;exact⟨ev,rfl,he,hq.then hx⟩)
   have HTK:Hid ((os.take (j+1)).filter (Z16 l T O)=(os.take j).filter (Z16 l T O)++if Z16 l T O p then [p]else []):=Q0 (by rw[List.take_add_one,hp];simp[List.filter_append,List.filter_cons])
   have HQL:Hid (((os.take j).filter (Z16 l T O)).length≤1000000):=Q0 (by have:=List.length_filter_le (Z16 l T O) (os.take j);rw[List.length_take]at this;omega)
   have HJ:=Q0 hlt;have HYR:=Q0 hyr;have HSP:Hid (Z16 l T O p=(((O.lookup p).isSome != ((Z3t l T p).2==0)) || ((O.lookup p).isSome&&(O.lookup p).getD [] != (Z3t l T p).1))):=Q0 rfl;generalize (os.take j).filter (Z16 l T O)=qs at HQ HTK HQL;generalize Z16 l T O p=st at HTK HSP;generalize Z3t l T p=wx at HWA HSP;obtain⟨ws,wc⟩:=wx;clear hcell hp hyr hmade hj hlt;go_wp2_with fail;go_region_held3 (fun w'=>w'.cell? ⟨n+6,0,none⟩=some (PTR (n+3))∧w'.cell? ⟨n+6,2,none⟩=some (.slice al l.length cl)) (first|exact⟨HX3.out.cellOf HK0.out (fun h=>h),HX3.out.cellOf HK2.out (fun h=>h)⟩|exact⟨k0,k2⟩|go_keep)
    ((go_at_call 18;refine(HWA.out _ (by first|exact Only.refl _ _|exact Only.drew _ _|exact Only.drewN _ _ _)).mono ?_;rintro e w3 ⟨ev,rfl,hee,hx3⟩;have HX3:=Q0 hx3;have HEE:=Q0 hee;clear hx3 hee))
   all_goals
    have k1:=((HYR.out.grow HX3.out).cell 1).trans (rfl:_=some (PTR (n+5)));have hget:=Z7b w3 (n+5) (n+4) O p (HYR.out.grow HX3.out).out;cases hl:O.lookup p with
    | none=>
     rw[hl]at hget HSP;have HGET:=Q0 hget;clear hget hl;by_cases hw:wc=0
     ·obtain rfl:=HEE.out.zero hw
      go_wp2_with fail;refine HGET.out.mono ?_
      rintro e w4 ⟨rfl,rfl⟩;have hst:st=true:=by rw[HSP.out];simp[hw]
      subst hst;have HTK2:Hid ((os.take (j+1)).filter (Z16 l T O)=qs++[p]):=Q0 (by rw[HTK.out,if_pos rfl])
      have HX3A:=Q0 ((HX.out.then HX3.out).thenAlloc (.cells #[S p] 9 (0,0)));have HQA:=Q0 ((HX3.out.thenAlloc (.cells #[S p] 9 (0,0))).row HQ.out (fun _ _ h=>h))
      clear HTK HSP HWA HGET HEE d0 k0 k1 k2;go_wp2_with (at_builtin;refine Z2t rfl (.tmp 51) (.tmp 53) w1 bs _ qs p w3 rfl rfl rfl rfl (HX3.out.row HQ.out (fun _ _ h=>h)) HQL.out (Nat.le_trans HBS.out.2 (HX.out.then HX3.out).size) (HX.out.then HX3.out) HBS.out.1 ?_;intro g5 cap5 w5 HR5 HX5 _)
      go_roundw
      case rel=>exact⟨j+1,_,rfl,HJ.out,by go_num,by rw[HTK2.out];exact HR5,HX5⟩
      case measure=>have:=HJ.out;simp[intOf];omega
     ·obtain⟨t,q,rfl⟩:=HEE.out.some hw
      go_wp2_with fail;refine HGET.out.mono ?_
      rintro e w4 ⟨rfl,rfl⟩;have hst:st=false:=by rw[HSP.out];simp[hw]
      subst hst;have HTK2:Hid ((os.take (j+1)).filter (Z16 l T O)=qs):=Q0 (by rw[HTK.out,if_neg (by decide),List.append_nil])
      clear HTK HSP HWA HGET HEE d0 k0 k1 k2;go_wp2_with fail;go_roundw
      case rel=>exact⟨j+1,_,rfl,HJ.out,by go_num,by rw[HTK2.out];exact HX3.out.row HQ.out (fun _ _ h=>h),Q0 (HX.out.then HX3.out)⟩
      case measure=>have:=HJ.out;simp[intOf];omega
    | some y=>
     rw[hl]at hget HSP;have HGET:=Q0 hget;clear hget hl;by_cases hw:wc=0
     ·obtain rfl:=HEE.out.zero hw
      by_cases hy:y=ws
      ·subst hy
       go_wp2_with fail;refine HGET.out.mono ?_
       rintro e w4 ⟨rfl,rfl⟩;have hst:st=false:=by rw[HSP.out];simp[hw]
       subst hst;have HTK2:Hid ((os.take (j+1)).filter (Z16 l T O)=qs):=Q0 (by rw[HTK.out,if_neg (by decide),List.append_nil])
       clear HTK HSP HWA HGET HEE d0 k0 k1 k2;go_wp2_with fail;go_roundw
       case rel=>exact⟨j+1,_,rfl,HJ.out,by go_num,by rw[HTK2.out];exact HX3.out.row HQ.out (fun _ _ h=>h),Q0 (HX.out.then HX3.out)⟩
       case measure=>have:=HJ.out;simp[intOf];omega
      ·have hyb:(y==ws)=false:=Q3 hy
       go_wp2_with fail;refine HGET.out.mono ?_
       rintro e w4 ⟨rfl,rfl⟩;have hst:st=true:=by rw[HSP.out];simp[hw,hy]
       subst hst;have HTK2:Hid ((os.take (j+1)).filter (Z16 l T O)=qs++[p]):=Q0 (by rw[HTK.out,if_pos rfl])
       have HX3A:=Q0 ((HX.out.then HX3.out).thenAlloc (.cells #[S p] 9 (0,0)));have HQA:=Q0 ((HX3.out.thenAlloc (.cells #[S p] 9 (0,0))).row HQ.out (fun _ _ h=>h))
       clear HTK HSP HWA HGET HEE d0 k0 k1 k2;go_wp2_with (at_builtin;refine Z2t rfl (.tmp 51) (.tmp 53) w1 bs _ qs p w3 rfl rfl rfl rfl (HX3.out.row HQ.out (fun _ _ h=>h)) HQL.out (Nat.le_trans HBS.out.2 (HX.out.then HX3.out).size) (HX.out.then HX3.out) HBS.out.1 ?_;intro g5 cap5 w5 HR5 HX5 _)
       go_roundw
       case rel=>exact⟨j+1,_,rfl,HJ.out,by go_num,by rw[HTK2.out];exact HR5,HX5⟩
       case measure=>have:=HJ.out;simp[intOf];omega
     ·obtain⟨t,q,rfl⟩:=HEE.out.some hw
      go_wp2_with fail;refine HGET.out.mono ?_
      rintro e w4 ⟨rfl,rfl⟩;have hst:st=true:=by rw[HSP.out];simp[hw]
      subst hst;have HTK2:Hid ((os.take (j+1)).filter (Z16 l T O)=qs++[p]):=Q0 (by rw[HTK.out,if_pos rfl])
      have HX3A:=Q0 ((HX.out.then HX3.out).thenAlloc (.cells #[S p] 9 (0,0)));have HQA:=Q0 ((HX3.out.thenAlloc (.cells #[S p] 9 (0,0))).row HQ.out (fun _ _ h=>h))
      clear HTK HSP HWA HGET HEE d0 k0 k1 k2;go_wp2_with (at_builtin;refine Z2t rfl (.tmp 51) (.tmp 53) w1 bs _ qs p w3 rfl rfl rfl rfl (HX3.out.row HQ.out (fun _ _ h=>h)) HQL.out (Nat.le_trans HBS.out.2 (HX.out.then HX3.out).size) (HX.out.then HX3.out) HBS.out.1 ?_;intro g5 cap5 w5 HR5 HX5 _)
      go_roundw
      case rel=>exact⟨j+1,_,rfl,HJ.out,by go_num,by rw[HTK2.out];exact HR5,HX5⟩
      case measure=>have:=HJ.out;simp[intOf];omega
  ·have hltz:¬(j:Int)<(os.length:Int):=by omega
   rw[List.take_of_length_le (by omega)]at HQ
   have hso:=Zdj wr bs qv _ HQ.out (by have:=List.length_filter_le (Z16 l T O) os;have:=HOL.out;omega)
   obtain⟨aq,cq,hqf,_,_,_⟩:=HQ.out.rd;have HSO:=Q0 hso;have HQB:=Q0 HQ.out.base;have HE:Hid (os.filter (Z16 l T O)=ss):=Q0 (by rw[HSSE.out,HOS.out];rfl)
   clear hso;rw[HE.out]at HSO HQ hqf;subst hqf;go_wp2_with fail;refine HSO.out.mono ?_;rintro e w5 ⟨rfl,hr5,ho5⟩;have HR5:=Q0 hr5;have HX5:=Q0 ho5;clear hr5 ho5;go_wp2_with fail;go_ret;exact⟨_,rfl,HR5.out.down (by have:=HO1.out.size;have:=HBS.out;omega),(HO1.out.then HX.out).trans HX5.out (fun _ _ h=>h) (fun i hi e=>by have:=HQB.out i e;have:=HBS.out;have:=HO1.out.size;omega)⟩
end
end Go.Proofs.YtnmhaipjfpongacGreatDoor
namespace Go.Proofs.YtnmhaipjfpongacGreatDoor
section
variable {E:BE}{KS:List B}{s:BS}{L:FL}{many:Nat}
end
section
variable {l:List Rule}{T O U:FL}{s t:BS}
theorem Zoo(hof:(Z0i l).1=0){i:Nat}:i∈Z18 l↔i<l.length:=by
 obtain⟨_,ho⟩:=Z0k hof;exact⟨fun h=>(Z1v ho).1.lt i h,fun h=>Z2v ho h rfl⟩
theorem Z5m.ftree(h:Z5m l O)(hR:Z34 l):Z2l O:=⟨h.fits,fun q hq=>by
 obtain⟨r,hr,e⟩:=h.own q hq;have:=(Z29 hR r hr).out;rw[←e];omega⟩
end
end Go.Proofs.YtnmhaipjfpongacGreatDoor
namespace Go.Proofs.YtnmhaipjfpongacGreatDoor
open Go.ChangeShapes Go.WideShapes Go.ChangeAt Go.RowKit
section
variable {w0 w:World}{D:Nat→Prop}{n:Nat}{sv lv:Value}{many:Nat}{T O L:FL}{l:List Rule}
def RetTr(w0 w:World)(D:Nat→Prop)(n:Nat)(sv lv:Value)(many:Nat)(T O L:FL)(l:List Rule)(v:Value)(e:Ending)(w':World):Prop:=e=.returned v∧Z1a w0 w' D n sv lv many T O L l∧Only (fun i=>i=n+2) w w'
theorem Z1a.put(P:Nat→Addr)(h:Z1a w0 w D n sv lv many T O L l)(hT:Z2l T)(hE:Errs w P [1,3,6,7])(hm:Z1m w)(p x:B)(hp:p.length≤999999):Calls Tryz.prog 38 #[PTR (n+3),S p,S x] w (RetTr w0 w D n sv lv many (putT T p x) O L l (errC P (Z06 T p x))):=by
 refine(Zaa w P (n+3) (n+2) T p x h.tree hT.fits hE hm hp (fun q hq=>by have:=hT.lens q hq;omega)).mono ?_
 rintro e w' ⟨rfl,h1,h2⟩;exact⟨rfl,h.files h1 h2,h2⟩
theorem Z1a.remove(P:Nat→Addr)(h:Z1a w0 w D n sv lv many T O L l)(hE:Errs w P [5])(p:B):Calls Tryz.prog 37 #[PTR (n+3),S p] w (RetTr w0 w D n sv lv many (delT T p) O L l (errC P (if (T.lookup p).isSome then 0 else 6))):=by
 refine(Z6y w (n+3) (n+2) T p (P 5) h.tree (hE.var 5 _ (by decide) rfl)).mono ?_
 rintro e w' ⟨rfl,h1,h2⟩;refine⟨?_,h.files h1 h2,h2⟩;split <;> rfl
theorem Z2l.remove{L:FL}(h:Z2l L)(p:B):Z2l (delT L p):=⟨h.fits.del p,fun q hq=>h.lens q (List.mem_filter.1 hq).1⟩
end
structure FTA(T:FL):Prop where
 ft:Z2l T
 ap:Apart T
theorem FTA.nil:FTA []:=⟨Z2l.nil,Apart.nil⟩
theorem FTA.put{T:FL}(h:FTA T)(p x:B)(hp:p.length≤1000):FTA (putT T p x):=⟨h.ft.put p x hp,h.ap.put h.ft.fits.rising p x⟩
theorem FTA.del{T:FL}(h:FTA T)(p:B):FTA (delT T p):=⟨h.ft.remove p,h.ap.del p⟩
section
variable {w0 w w':World}{l:List Rule}{n:Nat}{D:Nat→Prop}{sv lv:Value}{T O L:FL}{j:Nat}
end
end Go.Proofs.YtnmhaipjfpongacGreatDoor
namespace Go.Proofs.YtnmhaipjfpongacGreatDoor
theorem Z59.det{σ:Type}{E:BE}{bs:σ→BS}{step:σ→Nat→σ}{x y z:σ}(h:Z59 E bs step x y):Z59 E bs step x z→y=z:=by
 induction h with
 | stop h1=>
  intro k
  cases k with
  | stop _=>rfl
  | more k1 _=>rw[h1]at k1;cases k1
 | more h1 _ ih=>
  intro k
  cases k with
  | stop k1=>rw[h1]at k1;cases k1
  | more k1 k2=>
   rw[h1]at k1;obtain⟨rfl,rfl⟩:=List.cons.inj k1;exact ih k2
open Classical in
noncomputable def Zqd(E:BE)(x:BS×CS):BS×CS:=if h:∃y,Z59 E (·.1) (Z4h E) x y then h.choose else x
theorem Zhe{E:BE}{x y:BS×CS}(h:Z59 E (·.1) (Z4h E) x y):Zqd E x=y:=by
 unfold Zqd;rw[dif_pos ⟨y,h⟩];exact(Exists.choose_spec (⟨y,h⟩:∃y,Z59 E (·.1) (Z4h E) x y)).det h
structure PS where
 T:FL
 O:FL
 L:FL
def cacheOf:CS→FL
 | some (_,L)=>L
 | none=>[]
noncomputable def mkEnd(l:List Rule)(many:Nat)(x:PS)(os:List B):BS×CS:=Zqd (newE l os x.T) (.new,some (many,x.L))
noncomputable def Z61(l:List Rule)(many:Nat)(x:PS)(os:List B):PS:=
 if (Z0r l os).1=0 then⟨x.T,outY (newE l os x.T) (mkEnd l many x os).1 x.O (Z18 l),cacheOf (mkEnd l many x os).2⟩else x
theorem Z5f{l:List Rule}{os:List B}(hof:(Z0i l).1=0)(hm:∀s∈os,Z35 l s=true):Z0r l os=(0,-1):=by
 obtain⟨hr,ho⟩:=Z0k hof;have h0:Z0e l os=(0,-1):=by
  unfold Z0e;rw[if_neg (by rw[Z2e.2 hr];simp),Zex hm]
 unfold Z0r Z1c;rw[if_neg (by rw[h0];simp)]
 cases hq:Z7v l (Z2f l os)with
 | some o2=>rfl
 | none=>
  have hc:=Clo.need l os;obtain⟨k,s,hk,hks,hs,hw⟩:=Z7x hq (fun a b ha hia hn=>by
   have hb:=(Z5g hn).2;exact⟨hb,by simpa using hc.clos a (by simpa using hia) b hb hn⟩)
  exact absurd hw (Ordered.no_circle (Z1v ho).1 (fun _ _ hn=>(Z5g hn).2) (Z2v ho hk rfl) hs)
structure PSok(l:List Rule)(x:PS):Prop where
 ta:FTA x.T
 oi:Z5m l x.O
theorem PSok.make{l:List Rule}{many:Nat}{x:PS}{os:List B}(hof:(Z0i l).1=0)(h:PSok l x):PSok l (Z61 l many x os):=by
 unfold Z61;split
 ·exact⟨h.ta,Z5m.outs (E:=newE l os x.T) h.oi _ fun _ hi=>(Zoo hof).1 hi⟩
 ·exact h
def Z0a:List Rule:=[⟨[97,108,108],[106,111,105,110],[43],[[97,46,117,112],[98,46,117,112]]⟩,⟨[97,46,117,112],[117,112,112,101,114],[],[[97]]⟩,⟨[98,46,117,112],[117,112,112,101,114],[],[[98]]⟩,
 ⟨[115,114,116],[115,111,114,116],[],[[97],[98],[99]]⟩,⟨[99,110,116],[99,111,117,110,116],[],[[97,108,108],[115,114,116]]⟩,⟨[104,100],[104,101,97,100],[49],[[115,114,116]]⟩]
theorem Zlu:Z0i Z0a=(0,-1):=by kernel_rfl
theorem Z23:(Z0i Z0a).1=0:=by rw[Zlu]
theorem play_len:Z0a.length=6:=rfl
theorem play_sm:∀r∈Z0a,Z3z 900000 r:=fun r hr=>(Z29 (Z0k Z23).1 r hr).sm
def bitB(n i:Nat):UInt8:=if n / 2 ^ i % 2=1 then 120 else 10
def Z1o(n:Nat):B:=[bitB n 4,bitB n 3,bitB n 2,bitB n 1,bitB n 0]
def Z1i(q:Nat):B:=[UInt8.ofNat (97+q % 3)]
def Z6t(q:Nat):B:=((Z0a[q]?).map Rule.out).getD []
def Z4i(v:Nat):Option (List B):=if v % 8=5 then some []else if v % 8=6 then some [Z6t (v / 8 % 6)]else if v % 8=7 then some [[104,100],[99,110,116]]else none
noncomputable def oneP(x:PS)(v:Nat):PS×Nat:=
 match Z4i v with
 | some outs=>(Z61 Z0a 8 x (Z4u Z0a outs),(Z0r Z0a (Z4u Z0a outs)).1)
 | none=>if v % 8=4 then(⟨delT x.T (Z1i (v / 8)),x.O,x.L⟩,if (x.T.lookup (Z1i (v / 8))).isSome then 0 else 6)
  else(⟨putT x.T (Z1i (v / 8)) (Z1o (v / 8 / 3 % 32)),x.O,x.L⟩,Z06 x.T (Z1i (v / 8)) (Z1o (v / 8 / 3 % 32)))
theorem Zm0{q:Nat}(h:q<6):Z35 Z0a (Z6t q)=true:=by
 have:∀q:Fin 6,Z35 Z0a (Z6t q)=true:=by decide +kernel
 exact this ⟨q,h⟩
theorem Z4f{v:Nat}{outs:List B}(h:Z4i v=some outs):∀s∈Z4u Z0a outs,Z35 Z0a s=true:=by
 have key:∀s∈Z0a.map Rule.out,Z35 Z0a s=true:=fun s hs=>by
  obtain⟨r,hr,rfl⟩:=List.mem_map.1 hs;exact Zka hr
 have hd:∀s∈[[104,100],[99,110,116]],Z35 Z0a s=true:=by decide +kernel
 unfold Z4i at h;unfold Z4u;split at h
 ·cases h;exact key
 ·split at h
  ·cases h
   intro s hs
   rw[if_neg (by simp),List.mem_singleton]at hs
   subst hs;exact Zm0 (Nat.mod_lt _ (by decide))
  ·split at h
   ·cases h
    intro s hs
    rw[if_neg (by simp)]at hs
    exact hd s hs
   ·cases h
theorem Z2w{v:Nat}{outs:List B}(h:Z4i v=some outs):Z0r Z0a (Z4u Z0a outs)=(0,-1):=Z5f Z23 (Z4f h)
noncomputable def numP(x:PS)(z:Int):PS×Int:=if z<0 then(x,-1)else((oneP x z.toNat).1,((oneP x z.toNat).2:Int))
noncomputable def Z2q:PS→List Int→PS×List Int
 | x,[]=>(x,[])
 | x,z :: zs=>((Z2q (numP x z).1 zs).1,(numP x z).2 :: (Z2q (numP x z).1 zs).2)
theorem Zlv(x:PS)(zs:List Int)(z:Int):Z2q x (zs++[z])=((numP (Z2q x zs).1 z).1,(Z2q x zs).2++[(numP (Z2q x zs).1 z).2]):=by
 induction zs generalizing x with
 | nil=>rfl
 | cons y zs ih=>
  show ((Z2q (numP x y).1 (zs++[z])).1,(numP x y).2 :: (Z2q (numP x y).1 (zs++[z])).2)=_
  rw[ih];rfl
theorem Zcn{x:PS}{zs:List Int}{j:Nat}{z:Int}(h:zs[j]?=some z):Z2q x (zs.take (j+1))=((numP (Z2q x (zs.take j)).1 z).1,(Z2q x (zs.take j)).2++[(numP (Z2q x (zs.take j)).1 z).2]):=by
 rw[List.take_add_one,h];exact Zlv _ _ _
theorem Zfy(x:PS)(zs:List Int):(Z2q x zs).2.length=zs.length:=by
 induction zs generalizing x with
 | nil=>rfl
 | cons y zs ih=>show _+1=_+1;rw[ih]
theorem PSok.start:PSok Z0a ⟨[],[],[]⟩:=⟨FTA.nil,Z5m.nil _⟩
theorem code_le{x:PS}{v:Nat}:(oneP x v).2≤12:=by
 unfold oneP;cases ha:Z4i v with
 | some outs=>
  show (Z0r Z0a (Z4u Z0a outs)).1≤12
  rw[Z2w ha];exact Nat.zero_le _
 | none=>
  simp only
  split
  ·simp only;split <;> decide
  ·exact Zlr _ _ _
end Go.Proofs.YtnmhaipjfpongacGreatDoor
namespace Go.Proofs.YtnmhaipjfpongacGreatDoor
open Go.ChangeShapes Go.WideShapes Go.ChangeAt Go.RowKit
theorem Z9e{w:World}{b:Nat}{cs:Array Value}{ss:List B}(h:w.heap[b]?=some (.cells cs 9 (0,0)))(hc:cs.toList=ss.map S)(hl:ss.length≤1000):Rd S w (.slice (some ⟨b,0,none⟩) ss.length ss.length) ss:=by
 refine⟨_,ss.length,rfl,Nat.le_refl _,by unfold maxLen;omega,fun _=>⟨b,0,rfl,fun i x hx=>?_⟩⟩
 rw[Nat.zero_add,Z00 h i,←Array.getElem?_toList,hc,List.getElem?_map,hx];rfl
abbrev txW(w:World)(ss:List B):World:=w.alloc (.cells (ss.map S).toArray 9 (0,0))
abbrev Z8s(n:Nat):Array Value:=#[S [97,108,108],S [106,111,105,110],S [43],.slice (some ⟨n,0,none⟩) 2 2,S [97,46,117,112],S [117,112,112,101,114],S [],.slice (some ⟨n+1,0,none⟩) 1 1,S [98,46,117,112],S [117,112,112,101,114],S [],.slice (some ⟨n+2,0,none⟩) 1 1,S [115,114,116],S [115,111,114,116],S [],.slice (some ⟨n+3,0,none⟩) 3 3,S [99,110,116],S [99,111,117,110,116],S [],.slice (some ⟨n+4,0,none⟩) 2 2,S [104,100],S [104,101,97,100],S [49],.slice (some ⟨n+5,0,none⟩) 1 1]
abbrev Zju(w:World):World:=(txW (txW (txW (txW (txW (txW w [[97,46,117,112],[98,46,117,112]]) [[97]]) [[98]]) [[97],[98],[99]]) [[97,108,108],[115,114,116]]) [[115,114,116]]).alloc (.cells (Z8s w.heap.size) 55 (0,0))
theorem Znt(w:World):RdR (Zju w) (.slice (some ⟨w.heap.size+6,0,none⟩) 6 6) Z0a∧Ext w (Zju w)∧(Zju w).heap.size=w.heap.size+7:=by
 have hA:=fun(W:World) ob=>Only.alloc (fun _=>False) W ob
 have hM:=fun(W:World) ob=>(MapKept.heap_alloc W ob).1
 have hZ:=fun(W:World) (ob:Obj)=>(show (W.alloc ob).heap.size=W.heap.size+1 by simp)
 obtain⟨w1,h1⟩:∃w1,w1=txW w [[97,46,117,112],[98,46,117,112]]:=⟨_,rfl⟩;obtain⟨w2,h2⟩:∃w2,w2=txW w1 [[97]]:=⟨_,rfl⟩;obtain⟨w3,h3⟩:∃w3,w3=txW w2 [[98]]:=⟨_,rfl⟩;obtain⟨w4,h4⟩:∃w4,w4=txW w3 [[97],[98],[99]]:=⟨_,rfl⟩;obtain⟨w5,h5⟩:∃w5,w5=txW w4 [[97,108,108],[115,114,116]]:=⟨_,rfl⟩;obtain⟨w6,h6⟩:∃w6,w6=txW w5 [[115,114,116]]:=⟨_,rfl⟩;obtain⟨w7,h7⟩:∃w7,w7=w6.alloc (.cells (Z8s w.heap.size) 55 (0,0)):=⟨_,rfl⟩;have e:Zju w=w7:=by rw[h7,h6,h5,h4,h3,h2,h1]
 rw[e];have z1:w1.heap.size=w.heap.size+1:=by rw[h1];exact hZ _ _
 have z2:w2.heap.size=w.heap.size+2:=by rw[h2,hZ,z1]
 have z3:w3.heap.size=w.heap.size+3:=by rw[h3,hZ,z2]
 have z4:w4.heap.size=w.heap.size+4:=by rw[h4,hZ,z3]
 have z5:w5.heap.size=w.heap.size+5:=by rw[h5,hZ,z4]
 have z6:w6.heap.size=w.heap.size+6:=by rw[h6,hZ,z5]
 have z7:w7.heap.size=w.heap.size+7:=by rw[h7,hZ,z6]
 have x1:Ext w w1:=by rw[h1];exact hA _ _
 have x2:Ext w1 w2:=by rw[h2];exact hA _ _
 have x3:Ext w2 w3:=by rw[h3];exact hA _ _
 have x4:Ext w3 w4:=by rw[h4];exact hA _ _
 have x5:Ext w4 w5:=by rw[h5];exact hA _ _
 have x6:Ext w5 w6:=by rw[h6];exact hA _ _
 have x7:Ext w6 w7:=by rw[h7];exact hA _ _
 have y6:=x7;have y5:=x6.then y6;have y4:=x5.then y5;have y3:=x4.then y4;have y2:=x3.then y3;have y1:=x2.then y2;have m1:=y1.heapOf (b:=w.heap.size) (by rw[h1];exact hM _ _) (fun h=>h)
 have m2:=y2.heapOf (b:=w1.heap.size) (by rw[h2];exact hM _ _) (fun h=>h)
 have m3:=y3.heapOf (b:=w2.heap.size) (by rw[h3];exact hM _ _) (fun h=>h)
 have m4:=y4.heapOf (b:=w3.heap.size) (by rw[h4];exact hM _ _) (fun h=>h)
 have m5:=y5.heapOf (b:=w4.heap.size) (by rw[h5];exact hM _ _) (fun h=>h)
 have m6:=y6.heapOf (b:=w5.heap.size) (by rw[h6];exact hM _ _) (fun h=>h)
 have m7:w7.heap[w6.heap.size]?=some (.cells (Z8s w.heap.size) 55 (0,0)):=by rw[h7];exact hM _ _
 rw[z1]at m2;rw[z2]at m3;rw[z3]at m4;rw[z4]at m5;rw[z5]at m6;rw[z6]at m7;have t1:=Z9e (ss:=[[97,46,117,112],[98,46,117,112]]) m1 (by simp) (by decide)
 have t2:=Z9e (ss:=[[97]]) m2 (by simp) (by decide)
 have t3:=Z9e (ss:=[[98]]) m3 (by simp) (by decide)
 have t4:=Z9e (ss:=[[97],[98],[99]]) m4 (by simp) (by decide)
 have t5:=Z9e (ss:=[[97,108,108],[115,114,116]]) m5 (by simp) (by decide)
 have t6:=Z9e (ss:=[[115,114,116]]) m6 (by simp) (by decide)
 have hc:=fun i=>Z00 m7 i
 refine⟨⟨_,6,rfl,Nat.le_refl _,by decide,fun _=>⟨w.heap.size+6,0,rfl,fun i r hi=>?_⟩⟩,x1.then y1,z7⟩
 match i,hi with
 | 0,hi=>cases hi;exact⟨_,t1,hc 0,hc 1,hc 2,hc 3⟩
 | 1,hi=>cases hi;exact⟨_,t2,hc 4,hc 5,hc 6,hc 7⟩
 | 2,hi=>cases hi;exact⟨_,t3,hc 8,hc 9,hc 10,hc 11⟩
 | 3,hi=>cases hi;exact⟨_,t4,hc 12,hc 13,hc 14,hc 15⟩
 | 4,hi=>cases hi;exact⟨_,t5,hc 16,hc 17,hc 18,hc 19⟩
 | 5,hi=>cases hi;exact⟨_,t6,hc 20,hc 21,hc 22,hc 23⟩
 | i+6,hi=>simp[Z0a]at hi
def Zl2(w:World)(e:Ending)(w':World):Prop:=∃v,e=.returned v∧RdR w' v Z0a∧Ext w w'
theorem Z5d(w:World):Calls Tryz.prog 141 #[] w (Zl2 w):=by
 go_enter Tryz.func141,Tryz.ntmps141
 go_wp2_with fail;go_ret
 have h:=Znt w;exact⟨_,rfl,h.1,h.2.1⟩
def Holds(B:Nat→Prop)(w:World)(φ:World→Prop):Prop:=∀(w':World)(q:Nat→Prop),Only q w w'→(∀i,q i→i<w.heap.size→¬B i)→φ w'
section
variable {B B':Nat→Prop}{w w':World}{φ:World→Prop}{q:Nat→Prop}
theorem Holds.now(h:Holds B w φ):φ w:=h w (fun _=>False) (Only.refl _ _) (fun _ h=>h.elim)
theorem Holds.later(h:Holds B w φ)(ho:Only q w w')(hq:∀i,q i→i<w.heap.size→¬B i):Holds B w' φ:=fun w2 q2 h2 hq2=>
 h w2 (fun i=>q i∨q2 i) (ho.trans h2 (fun _ _ h=>.inl h) (fun _ _ h=>.inr h)) (fun i e hi=>e.elim (fun e=>hq i e hi) (fun e=>hq2 i e (Nat.lt_of_lt_of_le hi ho.size)))
theorem Holds.mono(h:Holds B w φ)(hb:∀i,i<w.heap.size→B i→B' i):Holds B' w φ:=fun w2 q2 h2 hq2=>h w2 q2 h2 (fun i e hi e2=>hq2 i e hi (hb i hi e2))
theorem Holds.of{w0:World}{v:Value}{l:List Rule}(h:RdR w0 v l)(hx:Ext w0 w):Holds (fun i=>i<w0.heap.size) w (fun w'=>RdR w' v l):=fun _ _ h2 hq2=>
 h.ext (hx.trans h2 (fun _ _ h=>h) (fun i hi e=>hq2 i e (Nat.lt_of_lt_of_le hi hx.size) hi))
end
structure Z2o(w0 w:World)(D:Nat→Prop)(n:Nat)(x:PS):Prop where
 at_:∃sv lv,Z1a w0 w D n sv lv 8 x.T x.O x.L Z0a
 ok:PSok Z0a x
def Z6d(w0 w:World)(D:Nat→Prop)(n:Nat)(x:PS)(w':World):Prop:=∃D2,Z2o w0 w' D2 n x∧Moved D w w' D2
section
variable {w0 w w' w2:World}{D D2:Nat→Prop}{n:Nat}{x x':PS}
theorem Z2o.other{q:Nat→Prop}(h:Z2o w0 w D n x)(ho:Only q w w')(hq:∀i,q i→w0.heap.size≤i∧¬D i):Z2o w0 w' D n x:=by
 obtain⟨sv,lv,hy⟩:=h.at_;exact⟨⟨sv,lv,hy.other ho hq⟩,h.ok⟩
theorem Z2o.grow(h:Z2o w0 w D n x)(ho:Ext w w'):Z2o w0 w' D n x:=h.other ho (fun _ e=>e.elim)
theorem Z2o.ext(h:Z2o w0 w D n x):Ext w0 w:=by
 obtain⟨sv,lv,hy⟩:=h.at_;exact hy.ext
theorem Z2o.lt(h:Z2o w0 w D n x):∀i,D i→w0.heap.size≤i∧i<w.heap.size:=fun i hi=>by
 obtain⟨sv,lv,hy⟩:=h.at_;exact⟨Nat.le_trans hy.low (hy.ge i hi),hy.lt i hi⟩
theorem Z6d.grow(h:Z6d w0 w D n x w')(ho:Ext w' w2):Z6d w0 w D n x w2:=by
 obtain⟨D2,h1,h2⟩:=h;exact⟨D2,h1.grow ho,h2.1.ext ho,h2.2⟩
theorem Z6d.from(h:Z6d w0 w' D n x w2)(ho:Ext w w'):Z6d w0 w D n x w2:=by
 obtain⟨D2,h1,h2⟩:=h;exact⟨D2,h1,Only.after ho h2.1,fun i e=>(h2.2 i e).imp id (fun e=>Nat.le_trans ho.size e)⟩
end
theorem Zav(w:World)(P:Nat→Addr)(hV:PV w P [1,2,3,4,5,6,7,8,9,10,11]):Calls Tryz.prog 77 #[] w (fun e w'=>e=.returned (PTR (w.heap.size+6))∧∃D,Z2o w w' D w.heap.size ⟨[],[],[]⟩):=by
 have HV:=Q0 hV;clear hV;go_enter Tryz.func77,Tryz.ntmps77;go_wp2_with fail;refine(Zhq 8 w P (HV.out.errs.sub (by decide))).mono ?_
 rintro e w1 (⟨h,_⟩|⟨k,hk,rfl,hy,hs⟩)
 ·omega
 obtain rfl:k=8:=by omega
 generalize (fun i=>w.heap.size≤i∧i<w.heap.size+7)=D at hy
 obtain⟨n,hn⟩:∃n,n=w.heap.size:=⟨_,rfl⟩;rw[←hn]at hy ⊢;have HY:=Q0 hy;have HNE:=Q0 hn;clear hy hn hs hk;go_wp2_with fail;refine(Z5d w1).mono ?_;rintro e w2 ⟨v,rfl,hr,ho⟩;have hru:=Zde P v (HY.out.grow ho) hr play_sm (HV.out.ext (HY.out.ext.then ho));have HRU:=Q0 hru;obtain⟨a2,c2,rfl,_,_,_⟩:=hr;clear ho hru;go_wp2_with fail;refine HRU.out.mono ?_;rintro e w3 ⟨ev,v2,D2,rfl,he,hy3,_⟩;rw[show Zk0 [] Z0a=Z0a from if_pos Z23]at hy3
 have HP:Hid (∃D,Z2o w w3 D n ⟨[],[],[]⟩):=Q0 ⟨_,⟨_,_,hy3⟩,PSok.start⟩;clear he hy3 HRU HY;go_wp2_with fail;go_ret;rw[←HNE.out];exact⟨rfl,HP.out⟩
structure Z09(w0 w:World)(D:Nat→Prop)(n:Nat)(tv ov lv cv:Value)(many:Nat)(T O L:FL)(l:List Rule):Prop where
 ext:Ext w0 w
 low:w0.heap.size≤n
 cells:w.heap[n+3]?=some (.cells #[PTR n,PTR (n+1),lv,PTR (n+2)] 121 (0,0))
 tree:Z20 w n n tv T
 out:Z20 w n (n+1) ov O
 cache:RCch w (n+2) cv many L
 own:∀i,n≤i→i<n+4→D i
 ge:∀i,D i→n≤i
 lt:∀i,D i→i<w.heap.size
 tva:∀i,tv.ownBlock=some i→D i∧n+4≤i∧ov.ownBlock≠some i∧cv.ownBlock≠some i
 ova:∀i,ov.ownBlock=some i→D i∧n+4≤i∧tv.ownBlock≠some i∧cv.ownBlock≠some i
 cva:∀i,cv.ownBlock=some i→D i∧n+4≤i
 rules:Holds (fun i=>i<w0.heap.size∨(D i∧n+4≤i∧tv.ownBlock≠some i∧ov.ownBlock≠some i)) w (fun w'=>RdR w' lv l)
section
variable {w0 w w':World}{D:Nat→Prop}{n:Nat}{tv ov lv cv tv':Value}{many:Nat}{T O L U:FL}{l l0:List Rule}
theorem Z09.other{q:Nat→Prop}(h:Z09 w0 w D n tv ov lv cv many T O L l)(ho:Only q w w')(hq:∀i,q i→w0.heap.size≤i∧¬D i):Z09 w0 w' D n tv ov lv cv many T O L l:=
 have no:∀i,D i→¬q i:=fun i hi e=>(hq i e).2 hi
 ⟨h.ext.trans ho (fun _ _ h=>h) (fun i hi e=>by have:=(hq i e).1;omega),h.low,ho.heapOf h.cells (no _ (h.own _ (by omega) (by omega))),h.tree.later ho (no _ (h.own _ (by omega) (by omega))) (fun i e=>no i (h.tva i e).1),h.out.later ho (no _ (h.own _ (by omega) (by omega))) (fun i e=>no i (h.ova i e).1),h.cache.later ho (no _ (h.own _ (by omega) (by omega))) (fun i e=>no i (h.cva i e).1),h.own,h.ge,fun i hi=>Nat.lt_of_lt_of_le (h.lt i hi) ho.size,h.tva,h.ova,h.cva,h.rules.later ho (fun i e hi e2=>e2.elim (fun e2=>by have:=(hq i e).1;omega) (fun e2=>no i e2.1 e))⟩
theorem Z09.grow(h:Z09 w0 w D n tv ov lv cv many T O L l)(ho:Ext w w'):Z09 w0 w' D n tv ov lv cv many T O L l:=h.other ho (fun _ e=>e.elim)
theorem Z09.cell(h:Z09 w0 w D n tv ov lv cv many T O L l)(j:Nat):w.cell? ⟨n+3,j,none⟩=(#[PTR n,PTR (n+1),lv,PTR (n+2)])[j]?:=Z00 h.cells j
theorem Z09.rd(h:Z09 w0 w D n tv ov lv cv many T O L l):RdR w lv l:=h.rules.now
theorem Z09.files(h:Z09 w0 w D n tv ov lv cv many T O L l)(ht:Z20 w' n n tv' U)(ho:Only (InR n tv) w w')(hn:∀i,tv'.ownBlock=some i→tv.ownBlock=some i∨w.heap.size≤i):Z09 w0 w' (fun i=>D i∨tv'.ownBlock=some i) n tv' ov lv cv many U O L l∧Moved D w w' (fun i=>D i∨tv'.ownBlock=some i):=by
 have hl:=h.low;have no:∀i,D i→i≠n→tv.ownBlock≠some i→¬InR n tv i:=fun i _ h1 h2 e=>e.elim h1 h2
 have d1:=no _ (h.own (n+1) (by omega) (by omega)) (by omega) (fun e=>by have:=(h.tva _ e).2.1;omega)
 have d2:=no _ (h.own (n+2) (by omega) (by omega)) (by omega) (fun e=>by have:=(h.tva _ e).2.1;omega)
 have d3:=no _ (h.own (n+3) (by omega) (by omega)) (by omega) (fun e=>by have:=(h.tva _ e).2.1;omega)
 have hD:∀i,InR n tv i→D i:=fun i e=>e.elim (fun e=>e ▸ h.own n (Nat.le_refl _) (by omega)) (fun e=>(h.tva i e).1)
 have hs:=h.lt _ (h.own (n+3) (by omega) (by omega))
 have hnew:∀i,tv'.ownBlock=some i→(tv.ownBlock=some i∨w.heap.size≤i)∧n+4≤i:=fun i e=>⟨hn i e,(hn i e).elim (fun k=>(h.tva i k).2.1) (fun k=>by omega)⟩
 refine⟨⟨h.ext.trans ho (fun _ _ h=>h) (fun i hi e=>by have:=h.ge i (hD i e);omega),hl,ho.heapOf h.cells d3,ht,h.out.later ho d1 (fun i e=>no i (h.ova i e).1 (by have:=(h.ova i e).2.1;omega) (h.ova i e).2.2.1),h.cache.later ho d2 (fun i e=>no i (h.cva i e).1 (by have:=(h.cva i e).2;omega) (fun k=>(h.tva i k).2.2.2 e)),fun i h1 h2=>.inl (h.own i h1 h2),fun i e=>e.elim (h.ge i) (fun e=>by have:=(hnew i e).2;omega),fun i e=>e.elim (fun e=>Nat.lt_of_lt_of_le (h.lt i e) ho.size) (fun e=>(ht.row.lt i e).2),fun i e=>⟨.inr e,(hnew i e).2,fun k=>?_,fun k=>?_⟩,fun i e=>⟨.inl (h.ova i e).1,(h.ova i e).2.1,fun k=>?_,(h.ova i e).2.2.2⟩,fun i e=>⟨.inl (h.cva i e).1,(h.cva i e).2⟩,?_⟩,Only.mono ho (fun i _ e=>hD i e),fun i e=>e.elim .inl (fun e=>(hn i e).elim (fun k=>.inl (h.tva i k).1) .inr)⟩
 ·rcases(hnew i e).1 with k2|k2
  ·exact(h.tva i k2).2.2.1 k
  ·have:=h.lt i (h.ova i k).1;omega
 ·rcases(hnew i e).1 with k2|k2
  ·exact(h.tva i k2).2.2.2 k
  ·have:=h.lt i (h.cva i k).1;omega
 ·rcases(hnew i k).1 with k2|k2
  ·exact(h.tva i k2).2.2.1 e
  ·have:=h.lt i (h.ova i e).1;omega
 ·refine(h.rules.later ho (fun i e hi e2=>?_)).mono (fun i hi e2=>?_)
  ·rcases e2 with e2|⟨_,h2,h3,_⟩
   ·have:=h.ge i (hD i e);omega
   ·exact e.elim (fun e=>by omega) h3
  ·rcases e2 with e2|⟨h1,h2,h3,h4⟩
   ·exact .inl e2
   ·refine .inr ⟨.inl h1,h2,fun k=>?_,h4⟩
    rcases(hnew i k).1 with k2|k2
    ·exact h3 k2
    ·have:=h.lt i h1;omega
theorem Z09.outs(h:Z09 w0 w D n tv ov lv cv many T O L l)(ht:Z20 w' n (n+1) tv' U)(ho:Only (InR (n+1) ov) w w')(hn:∀i,tv'.ownBlock=some i→ov.ownBlock=some i∨w.heap.size≤i):Z09 w0 w' (fun i=>D i∨tv'.ownBlock=some i) n tv tv' lv cv many T U L l∧Moved D w w' (fun i=>D i∨tv'.ownBlock=some i):=by
 have hl:=h.low;have no:∀i,D i→i≠n+1→ov.ownBlock≠some i→¬InR (n+1) ov i:=fun i _ h1 h2 e=>e.elim h1 h2
 have d0:=no _ (h.own n (by omega) (by omega)) (by omega) (fun e=>by have:=(h.ova _ e).2.1;omega)
 have d2:=no _ (h.own (n+2) (by omega) (by omega)) (by omega) (fun e=>by have:=(h.ova _ e).2.1;omega)
 have d3:=no _ (h.own (n+3) (by omega) (by omega)) (by omega) (fun e=>by have:=(h.ova _ e).2.1;omega)
 have hD:∀i,InR (n+1) ov i→D i:=fun i e=>e.elim (fun e=>e ▸ h.own (n+1) (by omega) (by omega)) (fun e=>(h.ova i e).1)
 have hs:=h.lt _ (h.own (n+3) (by omega) (by omega))
 have hnew:∀i,tv'.ownBlock=some i→(ov.ownBlock=some i∨w.heap.size≤i)∧n+4≤i:=fun i e=>⟨hn i e,(hn i e).elim (fun k=>(h.ova i k).2.1) (fun k=>by omega)⟩
 refine⟨⟨h.ext.trans ho (fun _ _ h=>h) (fun i hi e=>by have:=h.ge i (hD i e);omega),hl,ho.heapOf h.cells d3,h.tree.later ho d0 (fun i e=>no i (h.tva i e).1 (by have:=(h.tva i e).2.1;omega) (h.tva i e).2.2.1),ht,h.cache.later ho d2 (fun i e=>no i (h.cva i e).1 (by have:=(h.cva i e).2;omega) (fun k=>(h.ova i k).2.2.2 e)),fun i h1 h2=>.inl (h.own i h1 h2),fun i e=>e.elim (h.ge i) (fun e=>by have:=(hnew i e).2;omega),fun i e=>e.elim (fun e=>Nat.lt_of_lt_of_le (h.lt i e) ho.size) (fun e=>(ht.row.lt i e).2),fun i e=>⟨.inl (h.tva i e).1,(h.tva i e).2.1,fun k=>?_,(h.tva i e).2.2.2⟩,fun i e=>⟨.inr e,(hnew i e).2,fun k=>?_,fun k=>?_⟩,fun i e=>⟨.inl (h.cva i e).1,(h.cva i e).2⟩,?_⟩,Only.mono ho (fun i _ e=>hD i e),fun i e=>e.elim .inl (fun e=>(hn i e).elim (fun k=>.inl (h.ova i k).1) .inr)⟩
 ·rcases(hnew i k).1 with k2|k2
  ·exact(h.ova i k2).2.2.1 e
  ·have:=h.lt i (h.tva i e).1;omega
 ·rcases(hnew i e).1 with k2|k2
  ·exact(h.ova i k2).2.2.1 k
  ·have:=h.lt i (h.tva i k).1;omega
 ·rcases(hnew i e).1 with k2|k2
  ·exact(h.ova i k2).2.2.2 k
  ·have:=h.lt i (h.cva i k).1;omega
 ·refine(h.rules.later ho (fun i e hi e2=>?_)).mono (fun i hi e2=>?_)
  ·rcases e2 with e2|⟨_,h2,_,h3⟩
   ·have:=h.ge i (hD i e);omega
   ·exact e.elim (fun e=>by omega) h3
  ·rcases e2 with e2|⟨h1,h2,h3,h4⟩
   ·exact .inl e2
   ·refine .inr ⟨.inl h1,h2,h3,fun k=>?_⟩
    rcases(hnew i k).1 with k2|k2
    ·exact h4 k2
    ·have:=h.lt i h1;omega
def RetMT(w0 w:World)(D:Nat→Prop)(n:Nat)(ov lv cv:Value)(many:Nat)(T O L:FL)(l:List Rule)(v:Value)(e:Ending)(w':World):Prop:=
 ∃D2 tv',e=.returned v∧Z09 w0 w' D2 n tv' ov lv cv many T O L l∧Moved D w w' D2
def RetMO(w0 w:World)(D:Nat→Prop)(n:Nat)(tv lv cv:Value)(many:Nat)(T O L:FL)(l:List Rule)(v:Value)(e:Ending)(w':World):Prop:=
 ∃D2 ov',e=.returned v∧Z09 w0 w' D2 n tv ov' lv cv many T O L l∧Moved D w w' D2
theorem Z09.fput(h:Z09 w0 w D n tv ov lv cv many T O L l)(hT:Z2l T)(p x:B)(hp:p.length≤999999):Calls Tryz.prog 30 #[PTR n,S p,S x] w (RetMT w0 w D n ov lv cv many (putT T p x) O L l (I (Z06 T p x))):=by
 refine(Zk5 w n n tv T p x h.tree hT.fits.rising (by have:=hT.fits.few;omega) hp (by have:=h.lt _ (h.own n (by omega) (by omega));omega)).mono ?_
 rintro e w' ⟨tv',rfl,h1,h2,h3⟩;obtain⟨h4,h5⟩:=h.files h1 h2 h3;exact⟨_,_,rfl,h4,h5⟩
theorem Z09.fremove(h:Z09 w0 w D n tv ov lv cv many T O L l)(hT:Z2l T)(p:B):Calls Tryz.prog 71 #[PTR n,S p] w (RetMT w0 w D n ov lv cv many (delT T p) O L l (I (if (T.lookup p).isSome then 0 else 6))):=by
 refine(Zap w n n tv T p h.tree hT.fits.rising.nodup (by have:=hT.fits.few;omega) (by have:=h.lt _ (h.own n (by omega) (by omega));omega)).mono ?_
 rintro e w' ⟨tv',rfl,h1,h2,h3⟩;obtain⟨h4,h5⟩:=h.files h1 h2 h3;exact⟨_,_,rfl,h4,h5⟩
theorem Z09.oput(h:Z09 w0 w D n tv ov lv cv many T O L l)(hO:Z2l O)(p x:B)(hp:p.length≤999999):Calls Tryz.prog 30 #[PTR (n+1),S p,S x] w (RetMO w0 w D n tv lv cv many T (putT O p x) L l (I (Z06 O p x))):=by
 refine(Zk5 w n (n+1) ov O p x h.out hO.fits.rising (by have:=hO.fits.few;omega) hp (by have:=h.lt _ (h.own n (by omega) (by omega));omega)).mono ?_
 rintro e w' ⟨tv',rfl,h1,h2,h3⟩;obtain⟨h4,h5⟩:=h.outs h1 h2 h3;exact⟨_,_,rfl,h4,h5⟩
theorem Z09.oremove(h:Z09 w0 w D n tv ov lv cv many T O L l)(hO:Z2l O)(p:B):Calls Tryz.prog 71 #[PTR (n+1),S p] w (RetMO w0 w D n tv lv cv many T (delT O p) L l (I (if (O.lookup p).isSome then 0 else 6))):=by
 refine(Zap w n (n+1) ov O p h.out hO.fits.rising.nodup (by have:=hO.fits.few;omega) (by have:=h.lt _ (h.own n (by omega) (by omega));omega)).mono ?_
 rintro e w' ⟨tv',rfl,h1,h2,h3⟩;obtain⟨h4,h5⟩:=h.outs h1 h2 h3;exact⟨_,_,rfl,h4,h5⟩
def RetMN(many:Nat)(w:World)(e:Ending)(w':World):Prop:=e=.returned (PTR (w.heap.size+3))∧Z09 w w' (fun i=>w.heap.size≤i∧i<w.heap.size+4) w.heap.size (.slice none 0 0) (.slice none 0 0) (.slice none 0 0) (.slice none 0 0) many [] [] [] []
abbrev yardMW(w:World)(many:Nat):World:=(((w.alloc (.cells #[.slice none 0 0] 147 (0,0))).alloc (.cells #[.slice none 0 0] 147 (0,0))).alloc (.cells #[I many,.slice none 0 0] 93 (0,0))).alloc (.cells #[PTR w.heap.size,PTR (w.heap.size+1),.slice none 0 0,PTR (w.heap.size+2)] 121 (0,0))
theorem Zil(w:World)(many:Nat)(hm:many≤100):Z09 w (yardMW w many) (fun i=>w.heap.size≤i∧i<w.heap.size+4) w.heap.size (.slice none 0 0) (.slice none 0 0) (.slice none 0 0) (.slice none 0 0) many [] [] [] []:=by
 have hA:=fun(W:World) ob=>Only.alloc (fun _=>False) W ob
 have hM:=fun(W:World) ob=>(MapKept.heap_alloc W ob).1
 unfold yardMW;have m1:=hM w (.cells #[.slice none 0 0] 147 (0,0));have x1:=hA w (.cells #[.slice none 0 0] 147 (0,0));have z1:(w.alloc (.cells #[.slice none 0 0] 147 (0,0))).heap.size=w.heap.size+1:=by simp
 generalize (w.alloc (.cells #[.slice none 0 0] 147 (0,0)))=w1 at m1 x1 z1 ⊢;have m2:=hM w1 (.cells #[.slice none 0 0] 147 (0,0));have x2:=hA w1 (.cells #[.slice none 0 0] 147 (0,0));have z2:(w1.alloc (.cells #[.slice none 0 0] 147 (0,0))).heap.size=w.heap.size+2:=by simp[z1]
 generalize (w1.alloc (.cells #[.slice none 0 0] 147 (0,0)))=w2 at m2 x2 z2 ⊢;have m3:=hM w2 (.cells #[I many,.slice none 0 0] 93 (0,0));have x3:=hA w2 (.cells #[I many,.slice none 0 0] 93 (0,0));have z3:(w2.alloc (.cells #[I many,.slice none 0 0] 93 (0,0))).heap.size=w.heap.size+3:=by simp[z2]
 generalize (w2.alloc (.cells #[I many,.slice none 0 0] 93 (0,0)))=w3 at m3 x3 z3 ⊢;have m4:=hM w3 (.cells #[PTR w.heap.size,PTR (w.heap.size+1),.slice none 0 0,PTR (w.heap.size+2)] 121 (0,0));have x4:=hA w3 (.cells #[PTR w.heap.size,PTR (w.heap.size+1),.slice none 0 0,PTR (w.heap.size+2)] 121 (0,0));have z4:(w3.alloc (.cells #[PTR w.heap.size,PTR (w.heap.size+1),.slice none 0 0,PTR (w.heap.size+2)] 121 (0,0))).heap.size=w.heap.size+4:=by simp[z3]
 generalize (w3.alloc (.cells #[PTR w.heap.size,PTR (w.heap.size+1),.slice none 0 0,PTR (w.heap.size+2)] 121 (0,0)))=w4 at m4 x4 z4 ⊢;rw[z1]at m2;rw[z2]at m3;rw[z3]at m4;have hx:=((x1.then x2).then x3).then x4;refine⟨hx,Nat.le_refl _,m4,⟨((x2.then x3).then x4).heapOf m1 (fun h=>h),World.ownsRow_nil _ _ _ _⟩,⟨(x3.then x4).heapOf m2 (fun h=>h),World.ownsRow_nil _ _ _ _⟩,⟨x4.heapOf m3 (fun h=>h),RdS.nil _ _ _,Z1x.nil,List.nodup_nil,Nat.zero_le _,hm,fun i e=>by cases e⟩,fun i h1 h2=>⟨h1,h2⟩,fun i h=>h.1,fun i h=>by omega,fun i e=>(by cases e),fun i e=>(by cases e),fun i e=>(by cases e),?_⟩
 exact(Holds.of (RdR.nil w) hx).mono (fun i _ h=>.inl h)
theorem Zg6(many:Nat)(w:World)(hm:many≤100):Calls Tryz.prog 70 #[I many] w (RetMN many w):=by
 have HM:=Q0 hm;clear hm;go_enter Tryz.func70,Tryz.ntmps70;go_wp2_with fail;go_ret;exact⟨rfl,Zil w many HM.out⟩
theorem Z09.laid{E:Nat→Prop}{lv':Value}(h:Z09 w0 w D n tv ov lv cv many T O L l0)(he:∀i,E i→n+4≤i∧i<w.heap.size∧¬D i)(hv:Holds (fun i=>i<w0.heap.size∨E i) w (fun w'=>RdR w' lv' l)):Z09 w0 (w.setCell ⟨n+3,2,none⟩ lv') (fun i=>D i∨E i) n tv ov lv' cv many T O L l:=by
 have ho:Only (fun i=>i=n+3) w (w.setCell ⟨n+3,2,none⟩ lv'):=Only.set lv' rfl
 have hl:=h.low;refine⟨h.ext.trans ho (fun _ _ h=>h) (fun i hi e=>by omega),hl,(Z01 h.cells 2 lv').trans (by simp),h.tree.later ho (by omega) (fun i e=>by have:=(h.tva i e).2.1;omega),h.out.later ho (by omega) (fun i e=>by have:=(h.ova i e).2.1;omega),h.cache.later ho (by omega) (fun i e=>by have:=(h.cva i e).2;omega),fun i h1 h2=>.inl (h.own i h1 h2),fun i e=>e.elim (h.ge i) (fun e=>by have:=(he i e).1;omega),fun i e=>?_,fun i e=>⟨.inl (h.tva i e).1,(h.tva i e).2⟩,fun i e=>⟨.inl (h.ova i e).1,(h.ova i e).2⟩,fun i e=>⟨.inl (h.cva i e).1,(h.cva i e).2⟩,?_⟩
 ·have:=ho.size
  exact e.elim (fun e=>by have:=h.lt i e;omega) (fun e=>by have:=(he i e).2.1;omega)
 ·refine(hv.later ho (fun i e hi e2=>?_)).mono (fun i _ e2=>?_)
  ·have e:i=n+3:=e
   exact e2.elim (fun e2=>by omega) (fun e2=>by have:=(he i e2).1;omega)
  ·rcases e2 with e2|e2
   ·exact .inl e2
   ·exact .inr ⟨.inr e2,(he i e2).1,fun k=>(he i e2).2.2 (h.tva i k).1,fun k=>(he i e2).2.2 (h.ova i k).1⟩
theorem Z09.cached{w1:World}{q:Nat→Prop}{cv':Value}{L':FL}(h:Z09 w0 w D n tv ov lv cv many T O L l)(hx:Ext w w1)(ho:Only q w1 w')(hq:∀i,q i→i=n+2∨w.heap.size≤i)(hc:RCch w' (n+2) cv' many L')(hn:∀i,cv'.ownBlock=some i→cv.ownBlock=some i∨w1.heap.size≤i):Z09 w0 w' (fun i=>D i∨cv'.ownBlock=some i) n tv ov lv cv' many T O L' l∧Moved D w w' (fun i=>D i∨cv'.ownBlock=some i):=by
 have hl:=h.low;have hxo:Only (fun i=>i=n+2) w w':=hx.trans ho (fun _ _ h=>h.elim) (fun i hi e=>(hq i e).elim id (fun e=>by omega))
 have hs:=h.lt _ (h.own (n+3) (by omega) (by omega))
 have hsx:=hx.size;have hcv:∀i,cv'.ownBlock=some i→(cv.ownBlock=some i∨w.heap.size≤i)∧n+4≤i:=fun i e=>(hn i e).elim (fun k=>⟨.inl k,(h.cva i k).2⟩) (fun k=>⟨.inr (by omega),by omega⟩)
 refine⟨⟨h.ext.trans hxo (fun _ _ h=>h) (fun i hi e=>by omega),hl,hxo.heapOf h.cells (by omega),h.tree.later hxo (by omega) (fun i e=>by have:=(h.tva i e).2.1;omega),h.out.later hxo (by omega) (fun i e=>by have:=(h.ova i e).2.1;omega),hc,fun i h1 h2=>.inl (h.own i h1 h2),fun i e=>e.elim (h.ge i) (fun e=>by have:=(hcv i e).2;omega),fun i e=>e.elim (fun e=>by have:=h.lt i e;have:=hxo.size;omega) (fun e=>(hc.lt i e).1),fun i e=>⟨.inl (h.tva i e).1,(h.tva i e).2.1,(h.tva i e).2.2.1,fun k=>?_⟩,fun i e=>⟨.inl (h.ova i e).1,(h.ova i e).2.1,(h.ova i e).2.2.1,fun k=>?_⟩,fun i e=>⟨.inr e,(hcv i e).2⟩,?_⟩,hxo.mono (fun i _ e=>by have e:i=n+2:=e;rw[e];exact h.own _ (by omega) (by omega)),fun i e=>e.elim .inl (fun e=>(hn i e).elim (fun k=>.inl (h.cva i k).1) (fun k=>.inr (by omega)))⟩
 ·exact(hcv i k).1.elim (fun k2=>(h.tva i e).2.2.2 k2) (fun k2=>by have:=h.lt i (h.tva i e).1;omega)
 ·exact(hcv i k).1.elim (fun k2=>(h.ova i e).2.2.2 k2) (fun k2=>by have:=h.lt i (h.ova i e).1;omega)
 ·refine(h.rules.later hxo (fun i e hi e2=>?_)).mono (fun i hi e2=>?_)
  ·rcases e2 with e2|⟨_,h2,_,_⟩
   ·have e:i=n+2:=e;omega
   ·have e:i=n+2:=e;omega
  ·exact e2.elim .inl (fun⟨h1,h2⟩=>.inr ⟨.inl h1,h2⟩)
end
end Go.Proofs.YtnmhaipjfpongacGreatDoor
