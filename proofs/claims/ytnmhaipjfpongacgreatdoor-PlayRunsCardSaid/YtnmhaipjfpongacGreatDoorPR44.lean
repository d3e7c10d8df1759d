/- A part of this claim's proof;each theorem bears its own conditions. -/
import Derived.Test.YtnmhaipjfpongacGreatDoorPR43
set_option maxRecDepth 100000
set_option maxHeartbeats 16000000
namespace Go.Proofs.YtnmhaipjfpongacGreatDoor
open Go.ChangeShapes Go.WideShapes Go.ChangeAt Go.RowKit
theorem Z78.to{σ:Type}{E:BE}{bs:σ→BS}{step:σ→Nat→σ}{x y:σ}{o:List Nat}(h:Z78 E bs step x o y):Z59 E bs step x y:=by
 induction h with
 | stop h1=>exact .stop h1
 | more h1 _ ih=>exact .more h1 ih
abbrev FZ:Obj:=.cells #[.int .i64 0,.int .i64 0] 37 (0,0)
abbrev FN:Obj:=.cells #[IN 0,I (-1)] 37 (0,0)
section
variable {w0 w wr w':World}{E:BE}{K:MK}{D D2 D3:Nat→Prop}{n:Nat}{tv ov ov' lv cv v9:Value}{many:Nat}{T O U V L:FL}{l:List Rule}{s:BS}{g5 g7 bo:Nat}{od:List Nat}
structure MkM(w0 w:World)(E:BE)(K:MK)(D D2:Nat→Prop)(n:Nat)(tv ov lv cv:Value)(many:Nat)(T U L:FL)(l:List Rule)(s:BS)(g5 g7 bo:Nat)(v9:Value)(od:List Nat)(wr:World):Prop where
 yard:Z09 w0 wr D2 n tv ov lv cv many T U L l
 cells:wr.heap[K.b]?=some (.cells (Zge E K) 113 (0,0))
 tab:MTab wr K E.l.length (mst E s) (outM E s) (hitM E s) (whyM E s)
 f5:wr.heap[g5]?=some FZ
 f7:wr.heap[g7]?=some FN
 r:RowI bo wr v9 od
 apart:∀i,(i=K.b∨InM K i∨i=g5∨i=g7∨v9.ownBlock=some i)→¬D2 i∧i<wr.heap.size
 moved:Moved D w wr D2
 ft:Z2l U
theorem MkM.step(h:MkM w0 w E K D D2 n tv ov lv cv many T U L l s g5 g7 bo v9 od wr)(hy:Z09 w0 w' D3 n tv ov' lv cv many T V L l)(hm:Moved D2 wr w' D3)(hf:Z2l V):MkM w0 w E K D D3 n tv ov' lv cv many T V L l s g5 g7 bo v9 od w':=
 have no:=fun i e=>(h.apart i e).1
 ⟨hy,hm.1.heapOf h.cells (no _ (.inl rfl)),h.tab.later hm.1 (fun i e=>no i (.inr (.inl e))),hm.1.heapOf h.f5 (no _ (.inr (.inr (.inl rfl)))),hm.1.heapOf h.f7 (no _ (.inr (.inr (.inr (.inl rfl))))),hm.1.row h.r (fun i e=>no i (.inr (.inr (.inr (.inr e))))),fun i e=>⟨fun k=>(hm.2 i k).elim (no i e) (fun k=>by have:=(h.apart i e).2;omega),Nat.lt_of_lt_of_le (h.apart i e).2 hm.1.size⟩,h.moved.then hm,hf⟩
theorem MkM.grow(h:MkM w0 w E K D D2 n tv ov lv cv many T U L l s g5 g7 bo v9 od wr)(ho:Ext wr w'):MkM w0 w E K D D2 n tv ov lv cv many T U L l s g5 g7 bo v9 od w':=h.step (h.yard.grow ho) (Moved.ext ho) h.ft
def RetMkS(w0 w:World)(E:BE)(K:MK)(D:Nat→Prop)(n:Nat)(tv lv cv:Value)(many:Nat)(T U L:FL)(l:List Rule)(s:BS)(g5 g7 bo:Nat)(v9:Value)(od:List Nat)(e:Ending)(w':World):Prop:=
 ∃r D3 ov',e=.returned r∧MkM w0 w E K D D3 n tv ov' lv cv many T U L l s g5 g7 bo v9 od w'
theorem MkM.put(h:MkM w0 w E K D D2 n tv ov lv cv many T U L l s g5 g7 bo v9 od wr)(p x:B)(hp:p.length≤1000):Calls Tryz.prog 30 #[PTR (n+1),S p,S x] wr (RetMkS w0 w E K D n tv lv cv many T (putT U p x) L l s g5 g7 bo v9 od):=by
 refine(h.yard.oput h.ft p x (by omega)).mono ?_
 rintro e w' ⟨D3,ov',rfl,h1,h2⟩;exact⟨_,D3,ov',rfl,h.step h1 h2 (h.ft.put p x hp)⟩
theorem MkM.remove(h:MkM w0 w E K D D2 n tv ov lv cv many T U L l s g5 g7 bo v9 od wr)(p:B):Calls Tryz.prog 71 #[PTR (n+1),S p] wr (RetMkS w0 w E K D n tv lv cv many T (delT U p) L l s g5 g7 bo v9 od):=by
 refine(h.yard.oremove h.ft p).mono ?_;rintro e w' ⟨D3,ov',rfl,h1,h2⟩;exact⟨_,D3,ov',rfl,h.step h1 h2 ⟨h.ft.fits.del p,fun q hq=>h.ft.lens q (List.mem_filter.1 hq).1⟩⟩
theorem MkM.five{br offr cl i:Nat}(h:MkM w0 w E K D D2 n tv ov (.slice (some ⟨br,offr,none⟩) l.length cl) cv many T U L l s g5 g7 bo v9 od wr)(hE:E.l=l)(hi:i<l.length) :
  wr.cell? ⟨n+3,1,none⟩=some (PTR (n+1))∧wr.cell? ⟨n+3,2,none⟩=some (.slice (some ⟨br,offr,none⟩) l.length cl)∧wr.cell? ⟨br,offr+i*4,none⟩=some (S (E.rule i).out)∧wr.cell? ⟨K.b,3,none⟩=some (TabS K.ou E.l.length)∧wr.cell? ⟨K.ou,i,none⟩=some (S (outM E s i)):=by
 refine⟨h.yard.cell 1,h.yard.cell 2,?_,Z00 h.cells 3,h.tab.ou.cell (by rw[hE];exact hi)⟩
 obtain⟨_,_,ee,_,_,hc0⟩:=h.yard.rd;cases ee;obtain⟨b,off,ee,hcell⟩:=hc0 (by intro h;rw[h]at hi;simp at hi)
 cases ee;have hri:l[i]?=some (E.rule i):=by have:=BE.rule_at (E:=E) (i:=i) (by rw[hE];exact hi);rwa [hE]at this
 obtain⟨_,_,c0,_⟩:=hcell i _ hri;exact c0
def Zqi(w0 w:World)(D:Nat→Prop)(n:Nat)(tv lv:Value)(many:Nat)(T O L:FL)(l:List Rule)(os:List B)(e:Ending)(w':World):Prop:=
 ∃v D2 ov' cv' s L',e=.returned (.tuple #[v,.agg #[IN 0,I (-1)]])∧Z59 (newE l os T) (·.1) (Z4h (newE l os T)) (.new,some (many,L)) (s,some (many,L'))∧Z09 w0 w' D2 n tv ov' lv cv' many T (outY (newE l os T) s O (Z18 l)) L' l∧Moved D w w' D2
theorem Ze1(tmps:Array Value)(W:World)(h:Nat)(a b v:Value)(h4:tmps[4]?=some v)(h5:tmps[5]?=some (.pointer (some ⟨h,0,none⟩)))(d0:W.cell? ⟨h,0,none⟩=some a)(d1:W.cell? ⟨h,1,none⟩=some b) :
  (results Tryz.f73 tmps).run Tryz.prog W=.ok (.tuple #[v,.agg #[a,b]]) W:=by
 simp only[results,Tryz.results73];simp[go_sem,h4,h5,d0,d1]
theorem set2F{W:World}{h:Nat}{a b a' b':Value}{t:TypeId}(hc:W.heap[h]?=some (.cells #[a,b] t (0,0))) :
  ((W.setCell ⟨h,0,none⟩ a').setCell ⟨h,1,none⟩ b').heap[h]?=some (.cells #[a',b'] t (0,0))∧Only (fun i=>i=h) W ((W.setCell ⟨h,0,none⟩ a').setCell ⟨h,1,none⟩ b'):=
 ⟨Z01 (Z01 hc 0 a') 1 b',(Only.set (p:=fun i=>i=h) a' rfl).then (Only.set (p:=fun i=>i=h) b' rfl)⟩
theorem Z09.mute(h:Z09 w0 w D n tv ov lv cv many T O L l):Mute w (n+2):=by
 obtain⟨a,c,rfl,_⟩:=h.cache.rd;refine⟨_,_,h.cache.cells,fun j x e=>?_⟩
 rcases(show j=0∨j=1∨2≤j by omega)with rfl|rfl|h2
 ·cases e
 ·cases e
 ·rw[Array.getElem?_eq_none (by simpa using h2)]at e;cases e
theorem Zdf(vo:Value)(outs os:List B)(h:Z09 w0 w D n tv ov lv cv many T O L l)(hvo:Rd S w vo outs)(hz:outs=[]→vo=.slice none 0 0)(hno:outs.length≤1000)(hos:os=Z4u l outs)(hof:(Z0i l).1=0)(hf:Z0r l os=(0,-1))(hT:Z2l T)(hO:Z2l O) :
  Calls Tryz.prog 73 #[PTR (n+3),vo] w (Zqi w0 w D n tv lv many T O L l os):=by
 obtain⟨hR,hOr⟩:=Z0k hof;have hsh:=Z29 hR;have h40:=hR.1;have HSM:Hid (∀r∈l,Z3z 900000 r):=Q0 (fun r hr=>(hsh r hr).sm)
 have HSH:=Q0 hsh;have HR:=Q0 hR;have HOR:=Q0 hOr;have HH:=Q0 h;have HF:=Q0 hf;have HT:=Q0 hT;have HO:=Q0 hO;have HVO:=Q0 hvo;have HZ:=Q0 hz;have HOSL:Hid (os.length≤1000):=Q0 (by
  rw[hos];unfold Z4u;split
  ·rw[List.length_map];omega
  ·exact hno)
 have HOS:=Q0 hos;have HNO:=Q0 hno;have HLOW:Hid (w0.heap.size≤w.heap.size∧n+3<w.heap.size∧w0.heap.size≤n):=Q0 ⟨h.ext.size,h.lt _ (h.own _ (by omega) (by omega)),h.low⟩
 obtain⟨al,cl,hlv,_,_,hlc⟩:=h.rd;subst hlv;obtain⟨ao,co,rfl,_,_,_⟩:=hvo;have hlz:(l.length:Int)≤40:=by omega
 clear h hR hOr hsh hf hT hO hno hos hlc hz hof;go_enter Tryz.func73,Tryz.ntmps73;go_upto_if 15 with fail;have HXA:Hid (Ext w (w.alloc FZ)):=Q0 (Only.alloc _ _ _);have HGA:=Q0 (MapKept.heap_alloc w FZ).1;obtain⟨g5,hg5⟩:∃g5,g5=w.heap.size:=⟨_,rfl⟩;rw[←hg5]at HGA ⊢;have HG5:=Q0 hg5;have HG5L:=Q0 hg5;clear hg5;generalize (w.alloc FZ)=wA at HXA HGA ⊢;go_cut [1] (fun v wx=>∃(a1:Option Addr)(c1:Nat),v=.slice a1 os.length c1∧Hid (Rd S wx (.slice a1 os.length c1) os)∧Hid (Ext wA wx))
 case first=>
  by_cases he:outs=[]
  case pos=>
   have HE:Hid (os=l.map Rule.out):=Q0 (by rw[HOS.out];exact if_pos he)
   have hzv:=HZ.out he;have hz:outs.length=0:=by rw[he];rfl
   rw[hzv,hz];clear he hz hzv;have hya:=HH.out.grow HXA.out;have HYA:=Q0 hya;have hbs:∃bs,bs=wA.heap.size:=⟨_,rfl⟩;obtain⟨bs,hbs⟩:=hbs;have HBS:Hid (wA.heap.size≤bs∧bs≤wA.heap.size):=Q0 ⟨by omega,by omega⟩
   clear hya hbs;go_wp2_with fail;go_loopw [1,6] (fun q i wr=>∃(j:Nat)(qv:Value),qv=q∧j≤l.length∧i=.int .i64 j∧Hid (Row bs wr qv ((l.take j).map Rule.out))∧Hid (Ext wA wr)) (fun _ i _=>l.length-(intOf i).toNat)
   case atStart=>exact⟨0,_,rfl,Nat.zero_le _,rfl,Q0 (Row.nil _ _),Q0 (Only.refl _ _)⟩
   case round=>
    obtain⟨j,qv,rfl,hj,rfl,HQ,HX⟩:=hrel;have hyr:=HYA.out.grow HX.out;have k2:=(hyr.cell 2).trans (rfl:_=some (Value.slice al l.length cl));by_cases hlt:j<l.length
    ·have hltz:(j:Int)<(l.length:Int):=by omega
     have hj0:(0:Int)≤(j:Int):=by omega
     obtain⟨_,_,ee,_,_,hc0⟩:=hyr.rd;cases ee;obtain⟨b,off,rfl,hcell⟩:=hc0 (by intro h;rw[h]at hlt;simp at hlt)
     obtain⟨r,hq⟩:∃y,l[j]?=some y:=⟨_,Q1 hlt⟩;obtain⟨u,hu,c0,c1,c2,c3⟩:=hcell j r hq;have HTK:Hid ((l.take (j+1)).map Rule.out=(l.take j).map Rule.out++[r.out]):=Q0 (by rw[List.take_add_one,hq];simp)
     have HQL:Hid (((l.take j).map Rule.out).length≤1000000):=Q0 (by rw[List.length_map,List.length_take];omega)
     have HJ:=Q0 hlt;clear hcell hq c1 c2 c3 hu hj hlt hc0 hyr;generalize (l.take j).map Rule.out=os2 at HQ HTK HQL;go_wp2_with (at_builtin;refine Z2t rfl (.tmp 25) (.tmp 34) wA bs _ os2 r.out wr rfl rfl rfl rfl HQ.out HQL.out (Nat.le_trans HBS.out.2 HX.out.size) HX.out HBS.out.1 ?_;intro g5 cap5 w5 HR5 HX5 _);go_roundw
     case rel=>
      repeat apply Exists.intro
      refine⟨?_,rfl⟩;exact⟨j+1,_,rfl,HJ.out,by go_num,by rw[HTK.out];exact HR5,HX5⟩
     case measure=>have:=HJ.out;simp[intOf];omega
    ·have hltz:¬(j:Int)<(l.length:Int):=by omega
     rw[List.take_of_length_le (by omega),←HE.out]at HQ
     obtain⟨aq,cq,rfl,_,_,_⟩:=HQ.out.rd;clear hyr;go_wp2_with fail;go_meet;exact⟨_,_,rfl,Q0 HQ.out.rd,HX⟩
  case neg=>
   have HE:Hid (os=outs):=Q0 (by rw[HOS.out];exact if_neg he)
   have hz:¬(outs.length:Int)=0:=by
    have:=List.length_pos_iff.2 he
    omega
   have hzb:((outs.length:Int)==0)=false:=Q3 hz
   clear he;go_wp2_with fail;go_meet;exact⟨_,_,by rw[HE.out],Q0 (by rw[HE.out];exact HVO.out.ext HXA.out),Q0 (Only.refl _ _)⟩
 case rest=>
  obtain⟨a1,c1,rfl,HRO,HXC⟩:=hcut;have HXX:=Q0 (HXA.out.then HXC.out);have hyc:=HH.out.grow HXX.out;have k2:=(hyc.cell 2).trans (rfl:_=some (Value.slice al l.length cl));have HYC:=Q0 hyc;have hbf:=Zc8 wc l os _ _ hyc.rd HRO.out HSM.out;rw[Zm7,HF.out]at hbf;have HBF:Hid (Calls Tryz.prog 54 #[.slice al l.length cl,.slice a1 os.length c1] wc (RetE (.agg #[IN 0,I (-1)]) wc)):=Q0 hbf;have hfd:=run_code 0 (-1);clear hyc hbf;go_wp2_with fail;refine HBF.out.mono ?_;rintro e w3 ⟨rfl,ho3⟩;have HY3:=Q0 (HYC.out.grow ho3);have HX3:=Q0 (HXX.out.then ho3);have HR3:=Q0 (HRO.out.ext ho3);have HG3:=Q0 (ho3.heapOf (HXC.out.heapOf HGA.out (fun h=>h)) (fun h=>h))
  have HX3S:Hid (w.heap.size≤w3.heap.size):=Q0 HX3.out.size;clear ho3 HYC HXX HBF HRO k2;go_upto_region 9 with fail;have HXN:Hid (Ext w3 (w3.alloc FN)):=Q0 (Only.alloc _ _ _);have HGN:=Q0 (MapKept.heap_alloc w3 FN).1;obtain⟨g7,hg7⟩:∃g7,g7=w3.heap.size:=⟨_,rfl⟩;rw[←hg7]at HGN ⊢;have HG7:=Q0 hg7;clear hg7;generalize (w3.alloc FN)=w4 at HXN HGN ⊢;have HX4:=Q0 (HX3.out.then HXN.out);have hy4:=HH.out.grow HX4.out;have k0:=(hy4.cell 0).trans (rfl:_=some (PTR n));have k2:=(hy4.cell 2).trans (rfl:_=some (Value.slice al l.length cl));have k3:=(hy4.cell 3).trans (rfl:_=some (PTR (n+2)));have HG4:=Q0 (HXN.out.heapOf HG3.out (fun h=>h))
  obtain⟨hrs,hmade,o,hpo⟩:=Zb2 (l:=l) (outs:=os) (by rw[HF.out])
  have HNB:Hid (∀wq,Ext w4 wq→Calls Tryz.prog 55 #[PTR n,.slice al l.length cl,.slice a1 os.length c1,PTR (n+2)] wq (fun e w'=>∃wz,Ext w4 wz∧Zqh wz l os T (PTR (n+2)) (.slice al l.length cl) e w')):=Q0 (fun wq hq=>by
   have hyq:=hy4.grow hq;exact(Zg7 wq n n tv _ _ (some ⟨n+2,0,none⟩) l os T hyq.tree (by have:=HT.out.fits.few;omega) hyq.rd (HR3.out.ext (HXN.out.then hq)) HR.out (Zex hmade)).mono fun e w' h=>⟨wq,hq,h⟩)
  have hsml:(Z2f l os).length≤1000:=by
   have:=List.length_filter_le (Z51 l os) (List.range l.length)
   rw[List.length_range]at this;unfold Z2f;omega
  have HWL:Hid (Z0w (newE l os T) o (fun i=>(Z2f l os).contains i)):=Q0 (Zk9 hrs hpo HT.out.bytes)
  have HLN:Hid (Z3i (newE l os T)):=Q0 (Z3i.of hrs HSH.out (fun i hi=>(Z3q.1 hi).1) hsml)
  clear hy4 HY3 HX3 HG3 HXN hrs hpo hsml hmade;go_region_held3 (fun w'=>w'.cell? ⟨n+3,0,none⟩=some (PTR n)∧w'.cell? ⟨n+3,2,none⟩=some (.slice al l.length cl)∧w'.cell? ⟨n+3,3,none⟩=some (PTR (n+2))) (first|exact⟨HK5.out.1,HK5.out.2.1,HK5.out.2.2⟩|exact⟨k0,k2,k3⟩|go_keep)
   ((go_at_call 55;refine(HNB.out _ (by first|exact Only.refl _ _|exact Only.drew _ _|exact Only.drewN _ _ _)).mono ?_;rintro e w5 ⟨wz,hwz,Km,rfl,hcm,hkq,hlv,hmb,hge⟩;have HWZ:=Q0 hwz;have HCM:=Q0 hcm;have HKQ:=Q0 hkq;have HLV:=Q0 hlv;have HMB:=Q0 hmb;have HGE:=Q0 hge;have HK5:Hid (w5.cell? ⟨n+3,0,none⟩=some (PTR n)∧w5.cell? ⟨n+3,2,none⟩=some (.slice al l.length cl)∧w5.cell? ⟨n+3,3,none⟩=some (PTR (n+2))):=Q0 (by
    have hy5:=HH.out.grow (HX4.out.then (HWZ.out.then (hmb.ext0 hkq)));exact⟨hy5.cell 0,hy5.cell 2,hy5.cell 3⟩);clear hwz hcm hkq hlv hmb hge))
  all_goals
   have hsz4:=HX4.out.size;have hszz:=HWZ.out.size;have HXZ:=Q0 (HX4.out.then HWZ.out);have HZ5:=Q0 (HMB.out.ext0 HKQ.out);have HX5:=Q0 (HXZ.out.then HZ5.out);have hy5:=HH.out.grow HX5.out;have HBL:Hid (∀i,InMA Km i→wz.heap.size≤i):=Q0 (fun i e=>HGE.out i e)
   have hcvl:∀i,cv.ownBlock=some i→i<w.heap.size:=fun i e=>HH.out.lt i (HH.out.cva i e).1
   have HCN:Hid (n+2<w.heap.size):=Q0 (by have:=HLOW.out;omega)
   have hM5:Z2x wz w5 (newE l os T) { Km with q:=fun i=>i=n+2 } .new:=HMB.out.withQ HKQ.out _ (fun i e=>by rw[e];exact(HH.out.grow HXZ.out).mute)
   obtain⟨K,hK⟩:∃K:MK,K={ Km with q:=fun i=>i=n+2 }:=⟨_,rfl⟩
   have hKb:Km.b=K.b:=by rw[hK]
   have hKA:∀i,InMA K i↔InMA Km i:=fun i=>by rw[hK];exact Iff.rfl
   have hKq:K.q (n+2):=by rw[hK]
   have hKc:K.cp=PTR (n+2):=by rw[hK];exact HCM.out
   rw[←hK]at hM5;have HGK:Hid (∀i,InMA K i→w.heap.size≤i):=Q0 (fun i e=>by have:=HBL.out i ((hKA i).1 e);omega)
   have HGZ:Hid (∀i,InMA K i→wz.heap.size≤i):=Q0 (fun i e=>HBL.out i ((hKA i).1 e))
   have hms:MSt wz (newE l os T) K (n+2) (fun _=>True) cv (.new,some (many,L)) w5:=⟨hM5,BInv.new _,⟨hKc,hy5.cache,fun e=>by have:=HGK.out _ e;have:=HCN.out;omega,fun i e e2=>by have:=HGK.out _ e2;have:=hcvl i e;omega⟩,fun i e=>by have:=hcvl i e;have:=HX5.out.size;omega,trivial⟩
   have HALL:=Q0 (allM_any (lo:=0) hms Zjg HWL.out HLN.out (by show T.length≤1000000;have:=HT.out.fits.few;omega) (.inr hKq) (by have:=HCN.out;have:=HX5.out.size;omega) (Nat.zero_le _))
   rw[hKb];clear hms hM5 hK hKb hKA hKq hKc hcvl hy5 hsz4 hszz HKQ HMB HGE HLV HCM HNB k0 k2 k3;go_wp2_with fail;refine HALL.out.mono ?_;rintro e w6 ⟨v6,o6,y,cv',rfl,_,hms,hao,ho6,_,hn6⟩;obtain⟨L',hyL⟩:=hao.to.cached ⟨L,rfl⟩;obtain⟨s,C⟩:=y;have hyL:C=some (many,L'):=hyL;subst hyL;have hto:=hao.to;obtain⟨hy6,hm6⟩:=HH.out.cached HX5.out ho6 (fun i e=>e.elim (fun e=>.inr (HGK.out i (.inr (.inr (.inr e))))) .inl) hms.cch.2.1 (fun i e=>(hn6 i e).2)
   have hno:∀i,i<wz.heap.size→i≠n+2→¬(InM K i∨i=n+2):=fun i h1 h2 e=>e.elim (fun e=>by have:=HGZ.out i (.inr (.inr (.inr e)));omega) h2
   have hg5l:=Z03 HG4.out;have hg7l:=Z03 HGN.out;have hszz:=HWZ.out.size;have hg5:=ho6.heapOf ((HZ5.out).heapOf (HWZ.out.heapOf HG4.out (fun h=>h)) (fun h=>h)) (hno g5 (by omega) (by have:=HG5.out;have:=HCN.out;omega))
   have hg7:=ho6.heapOf ((HZ5.out).heapOf (HWZ.out.heapOf HGN.out (fun h=>h)) (fun h=>h)) (hno g7 (by omega) (by have:=HG7.out;have:=HCN.out;have:=HX3S.out;omega))
   have HY6:=Q0 hy6;have HM6:=Q0 hm6;have HF5:=Q0 hg5;have HF7:=Q0 hg7;have HTO:=Q0 hto;have HI:=Q0 hms.inv;have HCE:=Q0 hms.bld.cells;have HTB:=Q0 hms.bld.tab;have HAP:Hid (∀i,(i=K.b∨InM K i∨i=g5∨i=g7)→¬(D i∨cv'.ownBlock=some i)∧i<w6.heap.size):=Q0 (fun i hi=>by
    have hlt6:i<w6.heap.size:=by
     rcases hi with e|e|e|e
     ·exact hms.bld.lt i (.inl e)
     ·exact hms.bld.lt i (.inr (.inr (.inr e)))
     ·rw[e];exact Z03 hg5
     ·rw[e];exact Z03 hg7
    have hlow:w.heap.size≤i:=by
     rcases hi with e|e|e|e
     ·exact HGK.out i (.inl e)
     ·exact HGK.out i (.inr (.inr (.inr e)))
     ·rw[e,HG5.out];exact Nat.le_refl _
     ·rw[e,HG7.out];exact HX3S.out
    refine⟨fun k=>k.elim (fun k=>by have:=HH.out.lt i k;omega) (fun k=>?_),hlt6⟩
    rcases hi with e|e|e|e
    ·exact hms.cch.2.2.2 i k (.inl e)
    ·exact hms.cch.2.2.2 i k (.inr (.inr (.inr e)))
    ·have:=(hn6 i k).2
     rcases this with k2|k2
     ·have:=HH.out.lt i (HH.out.cva i k2).1;omega
     ·have:=HX5.out.size;have:=HZ5.out.size;rw[e]at k2;omega
    ·have:=(hn6 i k).2
     rcases this with k2|k2
     ·have:=HH.out.lt i (HH.out.cva i k2).1;omega
     ·have:=HX5.out.size;have:=HZ5.out.size;rw[e]at k2;omega)
   have k2:=(hy6.cell 2).trans (rfl:_=some (Value.slice al l.length cl));have HAL:Hid (∀wq,Ext w6 wq→Calls Tryz.prog 27 #[I l.length] wq (fun e w'=>∃tb,e=.returned (TabV tb l.length)∧Z0s w' tb 4 l.length (fun _=>.bool true)∧Ext w6 w')):=Q0 (fun wq hq=>(Zqc wq l.length (by omega)).mono fun e w' h=>⟨_,h.1,h.2.1,hq.then h.2.2⟩)
   have HOF:Hid (∀wq tb,Ext w6 wq→Z0s wq tb 4 l.length (fun _=>.bool true)→Calls Tryz.prog 26 #[.slice al l.length cl,TabV tb l.length] wq (fun e w'=>∃v,e=.returned (.tuple #[v,.bool true])∧RowI w6.heap.size w' v (Z18 l)∧Ext w6 w')):=Q0 (fun wq tb hq ht=>by
    have h1:=Zax wq l _ tb (fun _=>true) (HY6.out.grow hq).rd (by omega) ht
    rw[show Z3w l.length (Z07 l) (fun _=>true)=some (Z18 l) from HOR.out]at h1
    exact h1.mono fun e w' ⟨v,h2,h3,h4⟩=>⟨v,h2,RowI.down h3 hq.size,hq.then h4⟩)
   have hkk:∀wq,Ext w6 wq→wq.cell? ⟨n+3,2,none⟩=some (.slice al l.length cl):=fun wq hq=>(hy6.grow hq).cell 2
   have HKK:=Q0 hkk;clear hms hy6 hm6 hg5 hg7 hg5l hg7l hszz hno ho6 hn6 hto hao hkk HALL HGK HGZ HX5 HZ5 HXZ HBL HCN HG4 HGN HWZ HX4 HG7 HG5 HR3;go_wp2_with fail;go_region_held3 (fun w'=>w'.cell? ⟨n+3,2,none⟩=some (.slice al l.length cl)) (first|exact HK9.out|exact HK7.out|exact k2|go_keep)
    (first
     | (go_at_call 26;refine(HOF.out _ _ (by first | exact HX7.out | exact HX7.out.thenDrew | exact HX7.out.thenDrewN _) (by first | exact HT7.out | exact HT7.out.later (Only.drew (fun _=>False) _) (fun h=>h) | exact HT7.out.later (Only.drewN (fun _=>False) _ _) (fun h=>h))).mono ?_;rintro e w9 ⟨v9,rfl,hr9,ho9⟩;have HR9:=Q0 hr9;have HX9:=Q0 ho9;have HK9:=Q0 (HKK.out _ ho9);clear hr9 ho9)
     | (go_at_call 27;refine(HAL.out _ (by first | exact Only.refl _ _ | exact Only.drew _ _ | exact Only.drewN _ _ _)).mono ?_;rintro e w7 ⟨tb,rfl,ht7,ho7⟩;have HT7:=Q0 ht7;have HX7:=Q0 ho7;have HK7:=Q0 (HKK.out _ ho7);clear ht7 ho7))
   all_goals
    have hs9:MkM w0 w (newE l os T) K D (fun i=>D i∨cv'.ownBlock=some i) n tv ov (.slice al l.length cl) cv' many T O L' l s g5 g7 w6.heap.size v9 (Z18 l) w9:=
     ⟨HY6.out.grow HX9.out,HX9.out.heapOf HCE.out (fun h=>h),HTB.out.later HX9.out (fun _ _ h=>h),HX9.out.heapOf HF5.out (fun h=>h),HX9.out.heapOf HF7.out (fun h=>h),HR9.out,fun i e=>by
      have hsz:=HX9.out.size;rcases e with e|e|e|e|e
      ·exact⟨(HAP.out i (.inl e)).1,by have:=(HAP.out i (.inl e)).2;omega⟩
      ·exact⟨(HAP.out i (.inr (.inl e))).1,by have:=(HAP.out i (.inr (.inl e))).2;omega⟩
      ·exact⟨(HAP.out i (.inr (.inr (.inl e)))).1,by have:=(HAP.out i (.inr (.inr (.inl e)))).2;omega⟩
      ·exact⟨(HAP.out i (.inr (.inr (.inr e)))).1,by have:=(HAP.out i (.inr (.inr (.inr e)))).2;omega⟩
      ·exact⟨fun k=>by have:=HY6.out.lt i k;have:=(HR9.out.lt i e).1;omega,(HR9.out.lt i e).2⟩,HM6.out.then (Moved.ext HX9.out),HO.out⟩
    obtain⟨bo,hbo⟩:∃bo,bo=w6.heap.size:=⟨_,rfl⟩;rw[←hbo]at hs9;obtain⟨od,hod⟩:∃od,od=Z18 l:=⟨_,rfl⟩;rw[←hod]at hs9;have HOD:=Q0 hod;have hord:=(Z1v HOR.out).1;have hodl:od.length≤40:=by
     have:=Z1h (b:=List.range l.length) (hod ▸ hord.nodup) (fun x hx=>List.mem_range.2 (hord.lt x (hod ▸ hx)))
     rw[List.length_range]at this;omega
    have HODL:Hid (∀i∈od,i<l.length):=Q0 (fun i hi=>hord.lt i (hod ▸ hi))
    have hodz:(od.length:Int)≤40:=by omega
    have HFIN:Hid (∀v w' D2 ov',Z09 w0 w' D2 n tv ov' (.slice al l.length cl) cv' many T (outY (newE l os T) s O od) L' l→Moved D w w' D2→Zqi w0 w D n tv (.slice al l.length cl) many T O L l os (.returned (.tuple #[v,.agg #[IN 0,I (-1)]])) w'):=Q0 (fun v w' D2 ov' h1 h2=>by
     rw[HOD.out]at h1;exact⟨v,D2,ov',cv',s,L',rfl,HTO.out,h1,h2⟩)
    have HS9:=Q0 hs9;obtain⟨E,hE⟩:∃E,newE l os T=E:=⟨_,rfl⟩;have HEL:Hid (E.l=l):=Q0 (by rw[←hE])
    rw[hE]at HS9 HFIN HI HWL;obtain⟨a9,c9,rfl⟩:∃a9 c9,v9=.slice a9 od.length c9:=by
     obtain⟨a9,c9,h9,_⟩:=hs9.r.rd;exact⟨a9,c9,h9⟩
    clear hs9 hbo hod hE hord hodl k2 HK9 HKK HR9 HX9 HY6 HM6 HF5 HF7 HCE HTB HAP HAL HOF HTO;go_wp2_with fail;go_loopw [11] (fun i wx=>∃(j:Nat)(D2:Nat→Prop)(ov':Value),j≤od.length∧i=.int .i64 j∧Hid (MkM w0 w E K D D2 n tv ov' (.slice al l.length cl) cv' many T (outY E s O (od.take j)) L' l s g5 g7 bo (.slice a9 od.length c9) od wx)) (fun i _=>od.length-(intOf i).toNat)
    case atStart=>exact⟨0,_,_,Nat.zero_le _,rfl,HS9⟩
    case round=>
     clear HS9;obtain⟨j,D2,ov',hj,rfl,HM⟩:=hrel;by_cases hlt:j<od.length
     case pos=>
      have hltz:(j:Int)<(od.length:Int):=by omega
      have hj0:(0:Int)≤(j:Int):=by omega
      obtain⟨_,_,ee,_,_,hc0⟩:=HM.out.r.rd;cases ee;obtain⟨b9,off9,rfl,hc⟩:=hc0 (by intro h;rw[h]at hlt;simp at hlt)
      obtain⟨i,hi⟩:∃y,od[j]?=some y:=⟨_,Q1 hlt⟩;have d0:=hc j i hi;have hil:=HODL.out i (Q4 hi);have hilz:(i:Int)<(l.length:Int):=by omega
      have hilE:(i:Int)<(E.l.length:Int):=by rw[HEL.out];omega
      have hi0:(0:Int)≤(i:Int):=by omega
      obtain⟨_,_,ee,_,_,hcr0⟩:=HM.out.yard.rd;cases ee;obtain⟨br,offr,rfl,hcr⟩:=hcr0 (by intro h;rw[h]at hil;simp at hil)
      have hri:l[i]?=some (E.rule i):=by have:=BE.rule_at (E:=E) (i:=i) (by rw[HEL.out];exact hil);rwa [HEL.out]at this
      have HRO:Hid ((E.rule i).out.length≤1000):=Q0 (by have:=(HSH.out _ (Q4 hri)).out;omega)
      have ts:=HM.out.tab.st.cell (show i<E.l.length by rw[HEL.out];exact hil)
      have q2:=(Z00 HM.out.cells 2).trans (rfl:_=some (TabS K.st E.l.length));have HLAY:=Q0 (Zg0 (E:=E) (s:=s) (O:=O) hi);have hm4:=Z73 HI.out i;have HJ:=Q0 hlt;have HIL:=Q0 hil;obtain⟨U,hU⟩:∃U,U=outY E s O (od.take j):=⟨_,rfl⟩;rw[←hU]at HM HLAY;clear hc hc0 hi hcr hcr0 hri hj hlt hU hil;rcases(show mst E s i=0∨mst E s i=1∨mst E s i=2∨mst E s i=3∨mst E s i=4 by omega)with hm|hm|hm|hm|hm
      case inr.inr.inl=>
       rw[hm,show Z0d 2=[100,111,110,101] from rfl]at ts
       have HLE:Hid (outY E s O (od.take (j+1))=putT U (E.rule i).out (E.ans i).1):=Q0 (by rw[HLAY.out];unfold layY;rw[hm,if_pos rfl])
       obtain⟨k0,k1,k2,k3,k4⟩:=HM.out.five HEL.out HIL.out;rw[show outM E s i=(E.ans i).1 from by unfold outM;rw[hm,if_pos rfl]]at k4
       have HPUT:=Q0 (fun wq (hq:Ext wr wq)=>(HM.out.grow hq).put (E.rule i).out (E.ans i).1 HRO.out)
       have HOM:Hid (outM E s i=(E.ans i).1):=Q0 (by unfold outM;rw[hm,if_pos rfl])
       generalize (E.ans i).1=tx at HPUT HLE k4 HOM;clear hm hm4 HLAY;go_wp2_with fail;go_region_held3 (fun w'=>w'.cell? ⟨n+3,1,none⟩=some (PTR (n+1))∧w'.cell? ⟨n+3,2,none⟩=some (.slice (some ⟨br,offr,none⟩) l.length cl)∧w'.cell? ⟨br,offr+i*4,none⟩=some (S (E.rule i).out)∧w'.cell? ⟨K.b,3,none⟩=some (TabS K.ou E.l.length)∧w'.cell? ⟨K.ou,i,none⟩=some (S tx)) (first|exact HK12.out|exact⟨k0,k1,k2,k3,k4⟩|go_keep)
        ((go_at_call 30;refine(HPUT.out _ (by first|exact Only.refl _ _|exact Only.drew _ _|exact Only.drewN _ _ _)).mono ?_;rintro e w12 ⟨r12,D3,ov3,rfl,hm12⟩;have HM12:=Q0 hm12;have HK12:Hid (w12.cell? ⟨n+3,1,none⟩=some (PTR (n+1))∧w12.cell? ⟨n+3,2,none⟩=some (.slice (some ⟨br,offr,none⟩) l.length cl)∧w12.cell? ⟨br,offr+i*4,none⟩=some (S (E.rule i).out)∧w12.cell? ⟨K.b,3,none⟩=some (TabS K.ou E.l.length)∧w12.cell? ⟨K.ou,i,none⟩=some (S tx)):=Q0 (by
         have h5:=hm12.five HEL.out HIL.out;rw[HOM.out]at h5;exact h5);clear hm12))
       all_goals
        go_wp2_with fail;go_roundw
        case rel=>exact⟨j+1,D3,ov3,HJ.out,by go_num,by rw[HLE.out];exact HM12⟩
        case measure=>have:=HJ.out;simp[intOf];omega
      case inr.inr.inr.inl=>
       rw[hm,show Z0d 3=[102,97,105,108,101,100] from rfl]at ts
       have HLE:Hid (outY E s O (od.take (j+1))=delT U (E.rule i).out):=Q0 (by rw[HLAY.out];unfold layY;rw[hm,if_neg (by decide),if_pos (by decide)])
       obtain⟨k0,k1,k2,_,_⟩:=HM.out.five HEL.out HIL.out;have HRM:=Q0 (fun wq (hq:Ext wr wq)=>(HM.out.grow hq).remove (E.rule i).out)
       clear hm hm4 HLAY;go_wp2_with fail;go_region_held3 (fun w'=>w'.cell? ⟨n+3,1,none⟩=some (PTR (n+1))∧w'.cell? ⟨n+3,2,none⟩=some (.slice (some ⟨br,offr,none⟩) l.length cl)∧w'.cell? ⟨br,offr+i*4,none⟩=some (S (E.rule i).out)) (first|exact HK12.out|exact⟨k0,k1,k2⟩|go_keep)
        ((go_at_call 71;refine(HRM.out _ (by first|exact Only.refl _ _|exact Only.drew _ _|exact Only.drewN _ _ _)).mono ?_;rintro e w12 ⟨r12,D3,ov3,rfl,hm12⟩;have HM12:=Q0 hm12;have HK12:Hid (w12.cell? ⟨n+3,1,none⟩=some (PTR (n+1))∧w12.cell? ⟨n+3,2,none⟩=some (.slice (some ⟨br,offr,none⟩) l.length cl)∧w12.cell? ⟨br,offr+i*4,none⟩=some (S (E.rule i).out)):=Q0 (by
         obtain⟨h1,h2,h3,_,_⟩:=hm12.five HEL.out HIL.out;exact⟨h1,h2,h3⟩);clear hm12))
       all_goals
        go_wp2_with fail;go_roundw
        case rel=>exact⟨j+1,D3,ov3,HJ.out,by go_num,by rw[HLE.out];exact HM12⟩
        case measure=>have:=HJ.out;simp[intOf];omega
      case inr.inr.inr.inr=>
       rw[hm,show Z0d 4=[108,101,102,116] from rfl]at ts
       have HLE:Hid (outY E s O (od.take (j+1))=delT U (E.rule i).out):=Q0 (by rw[HLAY.out];unfold layY;rw[hm,if_neg (by decide),if_pos (by decide)])
       obtain⟨k0,k1,k2,_,_⟩:=HM.out.five HEL.out HIL.out;have HRM:=Q0 (fun wq (hq:Ext wr wq)=>(HM.out.grow hq).remove (E.rule i).out)
       clear hm hm4 HLAY;go_wp2_with fail;go_region_held3 (fun w'=>w'.cell? ⟨n+3,1,none⟩=some (PTR (n+1))∧w'.cell? ⟨n+3,2,none⟩=some (.slice (some ⟨br,offr,none⟩) l.length cl)∧w'.cell? ⟨br,offr+i*4,none⟩=some (S (E.rule i).out)) (first|exact HK12.out|exact⟨k0,k1,k2⟩|go_keep)
        ((go_at_call 71;refine(HRM.out _ (by first|exact Only.refl _ _|exact Only.drew _ _|exact Only.drewN _ _ _)).mono ?_;rintro e w12 ⟨r12,D3,ov3,rfl,hm12⟩;have HM12:=Q0 hm12;have HK12:Hid (w12.cell? ⟨n+3,1,none⟩=some (PTR (n+1))∧w12.cell? ⟨n+3,2,none⟩=some (.slice (some ⟨br,offr,none⟩) l.length cl)∧w12.cell? ⟨br,offr+i*4,none⟩=some (S (E.rule i).out)):=Q0 (by
         obtain⟨h1,h2,h3,_,_⟩:=hm12.five HEL.out HIL.out;exact⟨h1,h2,h3⟩);clear hm12))
       all_goals
        go_wp2_with fail;go_roundw
        case rel=>exact⟨j+1,D3,ov3,HJ.out,by go_num,by rw[HLE.out];exact HM12⟩
        case measure=>have:=HJ.out;simp[intOf];omega
      all_goals
       rw[hm]at ts;have HLE:Hid (outY E s O (od.take (j+1))=U):=Q0 (by rw[HLAY.out];unfold layY;rw[hm,if_neg (by decide),if_neg (by decide)])
       first
        | rw[show Z0d 0=[] from rfl]at ts
        | rw[show Z0d 1=[119,97,105,116,115] from rfl]at ts
       clear hm hm4 HLAY;go_wp2_with fail;go_roundw
       case rel=>exact⟨j+1,D2,ov',HJ.out,by go_num,by rw[HLE.out];exact HM⟩
       case measure=>have:=HJ.out;simp[intOf];omega
     case neg=>
      have hltz:¬(j:Int)<(od.length:Int):=by omega
      rw[List.take_of_length_le (by omega)]at HM
      have HMA:=Q0 (fun(st:Nat) (hst:st≤4) (b:Bool) (wq:World) (hq:Ext wr wq)=>Zma (HM.out.grow hq).cells (HM.out.grow hq).tab HWL.out HI.out st hst (Z0d st) rfl b)
      have HM1:Hid (∀wq:World,Ext wr wq→Calls Tryz.prog 136 #[PTR K.b,Value.string { data:=#[100,111,110,101] },.bool false] wq (RetE (IN (Z6w E s 2 false E.l.length)) wq)):=Q0 (HMA.out 2 (by decide) false)
      have HM2:Hid (∀wq:World,Ext wr wq→Calls Tryz.prog 136 #[PTR K.b,Value.string { data:=#[100,111,110,101] },.bool true] wq (RetE (IN (Z6w E s 2 true E.l.length)) wq)):=Q0 (HMA.out 2 (by decide) true)
      have HM3:Hid (∀wq:World,Ext wr wq→Calls Tryz.prog 136 #[PTR K.b,Value.string { data:=#[102,97,105,108,101,100] },.bool false] wq (RetE (IN (Z6w E s 3 false E.l.length)) wq)):=Q0 (HMA.out 3 (by decide) false)
      have HM4:Hid (∀wq:World,Ext wr wq→Calls Tryz.prog 136 #[PTR K.b,Value.string { data:=#[108,101,102,116] },.bool false] wq (RetE (IN (Z6w E s 4 false E.l.length)) wq)):=Q0 (HMA.out 4 (by decide) false)
      generalize Z6w E s 2 false E.l.length=n1 at HM1;generalize Z6w E s 2 true E.l.length=n2 at HM2;generalize Z6w E s 3 false E.l.length=n3 at HM3;generalize Z6w E s 4 false E.l.length=n4 at HM4;have s0:=(Z00 HM.out.f7 0).trans (rfl:_=some (IN 0));have s1:=(Z00 HM.out.f7 1).trans (rfl:_=some (I (-1)));clear HMA hj hlt;have HS0:=Q0 s0;have HS1:=Q0 s1;have HS5:=Q0 (And.intro ((Z00 HM.out.f5 0).trans (rfl:_=some (Value.int .i64 0))) ((Z00 HM.out.f5 1).trans (rfl:_=some (Value.int .i64 0))));have hne1:g5≠g7:=by
       rintro rfl;have h1:=HS5.out.2;rw[HS1.out]at h1;cases h1
      have hne2:=Ne.symm hne1;go_wp2_with fail;have HK7:=Q0 (fun(wq:World) (hq:Ext wr wq)=>(And.intro (hq.cellOf HS0.out (fun h=>h)) (hq.cellOf HS1.out (fun h=>h)):wq.cell? ⟨g7,0,none⟩=some (IN 0)∧wq.cell? ⟨g7,1,none⟩=some (I (-1))))
      clear s0 s1;refine wp_region_held_drew (S:=fun w'=>w'.cell? ⟨g7,0,none⟩=some (IN 0)∧w'.cell? ⟨g7,1,none⟩=some (I (-1))) (by kernel_rfl) (HK7.out _ (Only.drew _ _)) (fun hHeld=>?_)
      refine Z1u 0 ?_;refine Z1u 2 ?_;refine Z1u 4 ?_;refine Z1u 6 ?_;refine Z1u 9 ?_;refine wpAnyH_ready (rs:=[1]) (by kernel_rfl) (by simp) ?_
      refine AllReadyH.cons (o:={ dst:=some 133,op:=Op.call { callee:=Callee.value (Operand.func 136),args:=#[Operand.tmp 132,Operand.const (Value.string { data:=#[100,111,110,101] }),Operand.const (Value.bool false)],argTypes:=#[96,9,4] },type:=3,pos:= "build.go:322",after:=#[{ on:=0,ground:=Ground.data }],guard:=none }) rfl (fun K hK=>?_) AllReadyH.nil
      go_simp;go_at_call 136
      refine(HM1.out _ (Only.drew _ _)).mono ?_;rintro e w21 ⟨rfl,ho1⟩;have HA1:=Q0 ((Only.drew (fun _=>False) wr).then ho1)
      refine hK.out _ _ (HK7.out _ HA1.out) (fun hHeld=>?_)
      clear hK K;try simp only[Act.put,List.setIfInBounds_toArray,List.set_cons_zero,List.set_cons_succ]
      refine wpAnyH_ready (rs:=[3]) (by kernel_rfl) (by simp) ?_
      refine AllReadyH.cons (o:={ dst:=some 135,op:=Op.call { callee:=Callee.value (Operand.func 136),args:=#[Operand.tmp 134,Operand.const (Value.string { data:=#[100,111,110,101] }),Operand.const (Value.bool true)],argTypes:=#[96,9,4] },type:=3,pos:= "build.go:322",after:=#[{ on:=2,ground:=Ground.data },{ on:=1,ground:=Ground.chain }],guard:=none }) rfl (fun K hK=>?_) AllReadyH.nil
      go_simp;go_at_call 136
      refine(HM2.out _ HA1.out).mono ?_;rintro e w22 ⟨rfl,ho2⟩;have HA2:=Q0 (HA1.out.then ho2);refine hK.out _ _ (HK7.out _ HA2.out) (fun hHeld=>?_)
      clear hK K;try simp only[Act.put,List.setIfInBounds_toArray,List.set_cons_zero,List.set_cons_succ]
      refine wpAnyH_ready (rs:=[5]) (by kernel_rfl) (by simp) ?_
      refine AllReadyH.cons (o:={ dst:=some 137,op:=Op.call { callee:=Callee.value (Operand.func 136),args:=#[Operand.tmp 136,Operand.const (Value.string { data:=#[102,97,105,108,101,100] }),Operand.const (Value.bool false)],argTypes:=#[96,9,4] },type:=3,pos:= "build.go:322",after:=#[{ on:=4,ground:=Ground.data },{ on:=3,ground:=Ground.chain }],guard:=none }) rfl (fun K hK=>?_) AllReadyH.nil
      go_simp;go_at_call 136
      refine(HM3.out _ HA2.out).mono ?_;rintro e w23 ⟨rfl,ho3⟩;have HA3:=Q0 (HA2.out.then ho3);refine hK.out _ _ (HK7.out _ HA3.out) (fun hHeld=>?_)
      clear hK K;try simp only[Act.put,List.setIfInBounds_toArray,List.set_cons_zero,List.set_cons_succ]
      refine wpAnyH_ready (rs:=[7]) (by kernel_rfl) (by simp) ?_
      refine AllReadyH.cons (o:={ dst:=some 139,op:=Op.call { callee:=Callee.value (Operand.func 136),args:=#[Operand.tmp 138,Operand.const (Value.string { data:=#[108,101,102,116] }),Operand.const (Value.bool false)],argTypes:=#[96,9,4] },type:=3,pos:= "build.go:322",after:=#[{ on:=6,ground:=Ground.data },{ on:=5,ground:=Ground.chain }],guard:=none }) rfl (fun K hK=>?_) AllReadyH.nil
      go_simp;go_at_call 136
      refine(HM4.out _ HA3.out).mono ?_;rintro e w24 ⟨rfl,ho4⟩;have HA4:=Q0 (HA3.out.then ho4);refine hK.out _ _ (HK7.out _ HA4.out) (fun hHeld=>?_)
      clear hK K;try simp only[Act.put,List.setIfInBounds_toArray,List.set_cons_zero,List.set_cons_succ]
      have HX8:Hid (Ext wr (w24.alloc (.cells #[IN n1,IN n2,IN n3,IN n4] 3 (0,0)))):=Q0 (HA4.out.thenAlloc _);refine wpAnyH_ready (rs:=[8]) (by kernel_rfl) (by simp) ?_
      refine AllReadyH.cons (o:={ dst:=some 140,op:=Op.buildSlice 46 4 #[(0,Operand.tmp 133),(1,Operand.tmp 135),(2,Operand.tmp 137),(3,Operand.tmp 139)],type:=46,pos:= "build.go:322",after:=#[{ on:=1,ground:=Ground.data },{ on:=3,ground:=Ground.data },{ on:=5,ground:=Ground.data },{ on:=7,ground:=Ground.data }],guard:=none }) rfl (fun K hK=>?_) AllReadyH.nil
      go_simp;refine hK.out _ _ (HK7.out _ HX8.out) (fun hHeld=>?_)
      clear hK K;try simp only[Act.put,List.setIfInBounds_toArray,List.set_cons_zero,List.set_cons_succ]
      generalize (w24.alloc (.cells #[IN n1,IN n2,IN n3,IN n4] 3 (0,0)))=w25 at HX8 hHeld ⊢;refine Z1u 10 ?_;have h25:=HX8.out.heapOf HM.out.f5 (fun h=>h)
      have d0:=(Z00 h25 0).trans (rfl:_=some (Value.int .i64 0));have d1:=(Z00 h25 1).trans (rfl:_=some (Value.int .i64 0));have e0:=Z02 h25 0;have e1:=Z02 h25 1;obtain⟨hcf,hof⟩:=set2F (a':=IN 0) (b':=I (-1)) h25;have HCF:=Q0 hcf;have HOF:=Q0 hof;have HK8:=Q0 (And.intro (hof.cellOf (HK7.out _ HX8.out).1 hne2) (hof.cellOf (HK7.out _ HX8.out).2 hne2));clear h25 hcf hof;refine wpAnyH_ready (rs:=[11]) (by kernel_rfl) (by simp) ?_
      refine AllReadyH.cons (o:={ dst:=none,op:=Op.store 37 (Operand.tmp 5) (Operand.tmp 141),type:=0,pos:= "build.go:322",after:=#[{ on:=9,ground:=Ground.data },{ on:=10,ground:=Ground.chain },{ on:=0,ground:=Ground.phase },{ on:=1,ground:=Ground.phase },{ on:=2,ground:=Ground.phase },{ on:=3,ground:=Ground.phase },{ on:=4,ground:=Ground.phase },{ on:=5,ground:=Ground.phase },{ on:=6,ground:=Ground.phase },{ on:=7,ground:=Ground.phase },{ on:=8,ground:=Ground.phase },{ on:=9,ground:=Ground.phase },{ on:=10,ground:=Ground.phase }],guard:=none }) rfl (fun K hK=>?_) AllReadyH.nil
      go_simp;refine hK.out _ _ (HK8.out) (fun hHeld=>?_)
      clear hK K;try simp only[Act.put,List.setIfInBounds_toArray,List.set_cons_zero,List.set_cons_succ]
      refine wpAnyH_done (by kernel_rfl) ?_ _
      have HF0:=Q0 ((Z00 HCF.out 0).trans (rfl:_=some (IN 0)));have HF1:=Q0 ((Z00 HCF.out 1).trans (rfl:_=some (I (-1))));have ha5:=HM.out.apart g5 (.inr (.inr (.inl rfl)));have hl5:w.heap.size≤g5:=Nat.le_of_eq HG5L.out.symm;have hoy:=(Only.of_ext (p:=fun i=>i=g5) HX8.out).then HOF.out
      have HEND:=Q0 (fun v=>HFIN.out v _ D2 ov' (HM.out.yard.other hoy (fun i e=>by have e:i=g5:=e;rw[e];exact⟨by have:=HLOW.out;omega,ha5.1⟩)) ⟨HM.out.moved.1.trans hoy (fun _ _ h=>h) (fun i hi e=>by have e:i=g5:=e;omega),HM.out.moved.2⟩)
      clear hoy hl5 ha5;go_wp2_with fail;exact bodyPost_ret (v:=.tuple #[_,.agg #[IN 0,I (-1)]]) (Ze1 _ _ g5 _ _ _ rfl rfl HF0.out HF1.out) rfl (HEND.out _)
end
end Go.Proofs.YtnmhaipjfpongacGreatDoor
