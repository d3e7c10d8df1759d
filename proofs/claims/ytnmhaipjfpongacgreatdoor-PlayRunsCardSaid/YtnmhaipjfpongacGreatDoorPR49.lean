/- A part of this claim's proof;each theorem bears its own conditions. -/
import Derived.Test.YtnmhaipjfpongacGreatDoorPR48
import Derived.Test.YtnmhaipjfpongacGreatDoorPR45
set_option maxRecDepth 100000
set_option maxHeartbeats 16000000
namespace Go.Proofs.YtnmhaipjfpongacGreatDoor
open Go.ChangeShapes Go.WideShapes Go.ChangeAt Go.RowKit
structure Z1s(w0 w:World)(D:Nat→Prop)(n:Nat)(x:PS):Prop where
 at_:∃tv ov lv cv,Z09 w0 w D n tv ov lv cv 8 x.T x.O x.L Z0a
 ok:PSok Z0a x
def Z5n(w0 w:World)(D:Nat→Prop)(n:Nat)(x:PS)(w':World):Prop:=∃D2,Z1s w0 w' D2 n x∧Moved D w w' D2
section
variable {w0 w w' w2:World}{D D2:Nat→Prop}{n:Nat}{x x':PS}
theorem Z1s.other{q:Nat→Prop}(h:Z1s w0 w D n x)(ho:Only q w w')(hq:∀i,q i→w0.heap.size≤i∧¬D i):Z1s w0 w' D n x:=by
 obtain⟨tv,ov,lv,cv,hy⟩:=h.at_;exact⟨⟨tv,ov,lv,cv,hy.other ho hq⟩,h.ok⟩
theorem Z1s.grow(h:Z1s w0 w D n x)(ho:Ext w w'):Z1s w0 w' D n x:=h.other ho (fun _ e=>e.elim)
theorem Z1s.ext(h:Z1s w0 w D n x):Ext w0 w:=by
 obtain⟨tv,ov,lv,cv,hy⟩:=h.at_;exact hy.ext
theorem Z1s.lt(h:Z1s w0 w D n x):∀i,D i→w0.heap.size≤i∧i<w.heap.size:=fun i hi=>by
 obtain⟨tv,ov,lv,cv,hy⟩:=h.at_;exact⟨Nat.le_trans hy.low (hy.ge i hi),hy.lt i hi⟩
theorem Z5n.grow(h:Z5n w0 w D n x w')(ho:Ext w' w2):Z5n w0 w D n x w2:=by
 obtain⟨D2,h1,h2⟩:=h;exact⟨D2,h1.grow ho,h2.1.ext ho,h2.2⟩
theorem Z5n.from(h:Z5n w0 w' D n x w2)(ho:Ext w w'):Z5n w0 w D n x w2:=by
 obtain⟨D2,h1,h2⟩:=h;exact⟨D2,h1,Only.after ho h2.1,fun i e=>(h2.2 i e).imp id (fun e=>Nat.le_trans ho.size e)⟩
theorem Z1s.made{os:List B}{e:Ending}{tv lv:Value}(hx:PSok Z0a x)(h0:Z0r Z0a os=(0,-1))(h:Zqi w0 w D n tv lv 8 x.T x.O x.L Z0a os e w') :
  ∃v,e=.returned (.tuple #[v,.agg #[IN 0,I (-1)]])∧Z5n w0 w D n (Z61 Z0a 8 x os) w':=by
 obtain⟨v,D2,ov',cv',s,L',rfl,hto,hy,hmv⟩:=h;refine⟨_,rfl,?_⟩;have hm:mkEnd Z0a 8 x os=(s,some (8,L')):=Zhe hto;have hp:Z61 Z0a 8 x os=⟨x.T,outY (newE Z0a os x.T) s x.O (Z18 Z0a),L'⟩:=by
  unfold Z61;rw[if_pos (by rw[h0]),hm]
  rfl
 have hok:=hx.make (many:=8) (os:=os) Z23;rw[hp]at hok ⊢;exact⟨D2,⟨⟨_,_,_,_,hy⟩,hok⟩,hmv⟩
theorem Z8u(h:Z1s w0 w D n x){vo:Value}{outs:List B}(hvo:Rd S w vo outs)(hz:outs=[]→vo=.slice none 0 0)(hno:outs.length≤1000)(hm:∀s∈Z4u Z0a outs,Z35 Z0a s=true) :
  Calls Tryz.prog 73 #[PTR (n+3),vo] w (fun e w'=>∃v,e=.returned (.tuple #[v,.agg #[IN 0,I (-1)]])∧Z5n w0 w D n (Z61 Z0a 8 x (Z4u Z0a outs)) w'):=by
 obtain⟨tv,ov,lv,cv,hy⟩:=h.at_;refine(Zdf vo outs _ hy hvo hz hno rfl Z23 (Z5f Z23 hm) h.ok.ta.ft (h.ok.oi.ftree (Z0k Z23).1)).mono fun e w' hr=>?_
 exact Z1s.made h.ok (Z5f Z23 hm) hr
end
theorem fileM_is(q:Nat):Value.string (({ data:=#[97,98,99] }:ByteArray).extract (q % 3) (q % 3+1))=S (Z1i q):=by
 have hq:q % 3<3:=Nat.mod_lt _ (by decide)
 unfold Z1i;generalize q % 3=r at hq;rcases(show r=0∨r=1∨r=2 by omega)with rfl|rfl|rfl <;> rfl
def lowB(n:Nat):Nat→B
 | 0=>[]
 | j+1=>bitB n j :: lowB n j
theorem Zgg(n j:Nat):lowB n (j+1)=bitB n j :: lowB n j:=rfl
theorem Zp2(n:Nat):lowB n 5=Z1o n:=rfl
theorem bitB_odd(n j m:Nat)(h:m=n / 2 ^ j):bitB n j=if m % 2=1 then 120 else 10:=by rw[h];rfl
def Zjk(w0 w:World)(D:Nat→Prop)(n:Nat)(R:PS×Nat)(e:Ending)(w':World):Prop:=e=.returned (IN R.2)∧Z5n w0 w D n R.1 w'
theorem oneM_any{w0 w:World}{D:Nat→Prop}{n:Nat}{x:PS}(v:Nat)(h:Z1s w0 w D n x)(hv:v≤9223372036854775807) :
  Calls Tryz.prog 145 #[PTR (n+3),I v] w (Zjk w0 w D n (oneP x v)):=by
 have HH:=Q0 h;obtain⟨tv,ov,lv,cv,hy⟩:=h.at_;have HY:=Q0 hy;have k0:=(hy.cell 0).trans (rfl:_=some (PTR n));have hvz:(v:Int)≤9223372036854775807:=by omega
 have hv0:¬(v:Int)<0:=by omega
 obtain⟨R,hR⟩:∃R,R=oneP x v:=⟨_,rfl⟩;rw[←hR];have HR:=Q0 hR;have hq3:(0:Int)≤(v:Int) / 8 % 3:=by omega
 have hq4:(v:Int) / 8 % 3+1≤3:=by omega
 have hcases:v % 8=4∨v % 8=5∨v % 8=6∨v % 8=7∨v % 8<4:=by omega
 have HFILE:=Q0 (fileM_is (v / 8));clear h hy hR;rcases hcases with hc|hc|hc|hc|hc
 ·have b4:((v:Int) % 8==4)=true:=beq_iff_eq.2 (by omega)
  have HONE:Hid (R=(⟨delT x.T (Z1i (v / 8)),x.O,x.L⟩,if (x.T.lookup (Z1i (v / 8))).isSome then 0 else 6)):=Q0 (by
   rw[HR.out];unfold oneP Z4i;rw[if_neg (by omega),if_neg (by omega),if_neg (by omega)]
   simp only
   rw[if_pos hc])
  have HREM:Hid (Calls Tryz.prog 71 #[PTR n,S (Z1i (v / 8))] w (Zjk w0 w D n R)):=Q0 (by
   refine(HY.out.fremove HH.out.ok.ta.ft (Z1i (v / 8))).mono ?_;rintro e w' ⟨D2,tv',rfl,h1,h2⟩;rw[HONE.out];refine⟨?_,D2,⟨⟨_,_,_,_,h1⟩,HH.out.ok.ta.del _,HH.out.ok.oi⟩,h2⟩;show Ending.returned _=_
   congr 2
   split <;> rfl)
  clear hc;go_enter Tryz.func145,Tryz.ntmps145;go_wp2_with fail;rw[HFILE.out];refine HREM.out.mono ?_;rintro e w2 ⟨rfl,hp⟩;have HP:=Q0 hp;clear hp;go_wp2_with fail;go_ret;exact⟨rfl,HP.out⟩
 ·have b4:((v:Int) % 8==4)=false:=Q3 (by omega)
  have b5:((v:Int) % 8==5)=true:=beq_iff_eq.2 (by omega)
  have ha:Z4i v=some []:=by unfold Z4i;rw[if_pos hc]
  have HMK:=Q0 (Z8u HH.out (Rd.nil S w) (fun _=>rfl) (by decide) (Z4f ha))
  have HONE:Hid (R=(Z61 Z0a 8 x (Z4u Z0a []),0)):=Q0 (by rw[HR.out];unfold oneP;rw[ha];simp only;rw[Z2w ha])
  clear hc ha;go_enter Tryz.func145,Tryz.ntmps145;go_wp2_with fail;refine HMK.out.mono ?_;rintro e w2 ⟨v2,rfl,hp⟩;have HP:=Q0 (hp.grow (Only.alloc _ w2 FN));clear hp;go_wp2_with fail;go_ret;rw[HONE.out];exact⟨rfl,HP.out⟩
 ·have b4:((v:Int) % 8==4)=false:=Q3 (by omega)
  have b5:((v:Int) % 8==5)=false:=Q3 (by omega)
  have b6:((v:Int) % 8==6)=true:=beq_iff_eq.2 (by omega)
  have ha:Z4i v=some [Z6t (v / 8 % 6)]:=by unfold Z4i;rw[if_neg (by omega),if_pos hc]
  have hi6:v / 8 % 6<6:=Nat.mod_lt _ (by decide)
  have hii:(v:Int) / 8 % 6=((v / 8 % 6:Nat):Int):=by omega
  obtain⟨i,hi⟩:∃i,i=v / 8 % 6:=⟨_,rfl⟩;rw[←hi]at ha hi6 hii;have hiz:(i:Int)<6:=by omega
  have hi0:(0:Int)≤(i:Int):=by omega
  have HAM:=Q0 (Z4f ha);have HONE:Hid (R=(Z61 Z0a 8 x (Z4u Z0a [Z6t i]),0)):=Q0 (by rw[HR.out];unfold oneP;rw[ha];simp only;rw[Z2w ha])
  have HI6:=Q0 hi6;clear hc ha hi hi6;go_enter Tryz.func145,Tryz.ntmps145;go_wp2_with fail;refine(Z72 w).mono ?_;rintro e w1 ⟨vs,rfl,hr,ho⟩;obtain⟨av,cs,rfl,_,_,hcell0⟩:=hr;obtain⟨b,off,rfl,hcell⟩:=hcell0 (by decide)
  obtain⟨r,hri⟩:∃r,Z0a[i]?=some r:=⟨_,Q1 HI6.out⟩;obtain⟨_,_,c0,_⟩:=hcell i r hri;have hro:Z6t i=r.out:=by unfold Z6t;rw[hri];rfl
  rw[←hro]at c0;have HX1:=Q0 ho;have HNR:=Q0 (Row.nil w1.heap.size w1);clear hcell hcell0 hri hro ho;go_wp2_with (at_builtin;refine Z2t rfl (.tmp 60) (.tmp 67) w1 w1.heap.size (.slice none 0 0) [] (Z6t i) w1 rfl rfl rfl rfl HNR.out (by simp) (Nat.le_refl _) (Only.refl _ _) (Nat.le_refl _) ?_;intro g5 cap5 w5 HR5 HX5 _)
  have HMK:=Q0 (Z8u (HH.out.grow (HX1.out.then HX5.out)) (outs:=[Z6t i]) HR5.out.rd (fun h=>by cases h) (by simp) HAM.out)
  have HX15:=Q0 (HX1.out.then HX5.out);go_wp2_with fail;refine HMK.out.mono ?_;rintro e w2 ⟨v2,rfl,hp⟩;have HP:=Q0 ((hp.from HX15.out).grow (Only.alloc _ w2 FN))
  clear hp c0;go_wp2_with fail;go_ret;rw[HONE.out];exact⟨rfl,HP.out⟩
 ·have b4:((v:Int) % 8==4)=false:=Q3 (by omega)
  have b5:((v:Int) % 8==5)=false:=Q3 (by omega)
  have b6:((v:Int) % 8==6)=false:=Q3 (by omega)
  have b7:((v:Int) % 8==7)=true:=beq_iff_eq.2 (by omega)
  have ha:Z4i v=some [[104,100],[99,110,116]]:=by unfold Z4i;rw[if_neg (by omega),if_neg (by omega),if_pos hc]
  have HAM:=Q0 (Z4f ha);have HONE:Hid (R=(Z61 Z0a 8 x (Z4u Z0a [[104,100],[99,110,116]]),0)):=Q0 (by rw[HR.out];unfold oneP;rw[ha];simp only;rw[Z2w ha])
  have HNR:Hid (Row w.heap.size (w.alloc (.cells #[S [104,100],S [99,110,116]] 9 (0,0))) (.slice none 0 0) []):=Q0 (Row.nil _ _);have HXA:Hid (Ext w (w.alloc (.cells #[S [104,100],S [99,110,116]] 9 (0,0)))):=Q0 (Only.alloc _ _ _);have HLT:=Q0 (Z9e (ss:=[[104,100],[99,110,116]]) (MapKept.heap_alloc w (.cells #[S [104,100],S [99,110,116]] 9 (0,0))).1 (by simp) (by decide))
  clear hc ha;go_enter Tryz.func145,Tryz.ntmps145;go_wp2_with (at_builtin;refine Z22 rfl (.tmp 71) (.tmp 72) w w.heap.size (.slice none 0 0) (.slice (some ⟨w.heap.size,0,none⟩) 2 2) [] [[104,100],[99,110,116]] _ rfl rfl rfl rfl HLT.out (by intro h;cases h) HNR.out (by decide) HXA.out.size HXA.out (Nat.le_refl _) ?_;intro a5 m5 cap5 w5 hm5 HR5 HX5 _;clear hm5)
  have HMK:=Q0 (Z8u (HH.out.grow HX5.out) (outs:=[[104,100],[99,110,116]]) HR5.out.rd (fun h=>by cases h) (by decide) HAM.out)
  go_wp2_with fail;refine HMK.out.mono ?_
  rintro e w2 ⟨v2,rfl,hp⟩;have HP:=Q0 ((hp.from HX5.out).grow (Only.alloc _ w2 FN))
  clear hp;go_wp2_with fail;go_ret;rw[HONE.out];exact⟨rfl,HP.out⟩
 ·have b4:((v:Int) % 8==4)=false:=Q3 (by omega)
  have b5:((v:Int) % 8==5)=false:=Q3 (by omega)
  have b6:((v:Int) % 8==6)=false:=Q3 (by omega)
  have b7:((v:Int) % 8==7)=false:=Q3 (by omega)
  obtain⟨N,hN⟩:∃N,N=v / 8 / 3 % 32:=⟨_,rfl⟩;have HNN:=Q0 hN;have HONE:Hid (R=(⟨putT x.T (Z1i (v / 8)) (Z1o N),x.O,x.L⟩,Z06 x.T (Z1i (v / 8)) (Z1o N))):=Q0 (by
   rw[HR.out,hN];unfold oneP Z4i;rw[if_neg (by omega),if_neg (by omega),if_neg (by omega)]
   simp only
   rw[if_neg (by omega)])
  have HPUT:Hid (Calls Tryz.prog 30 #[PTR n,S (Z1i (v / 8)),S (lowB N 5)] w (Zjk w0 w D n R)):=Q0 (by
   rw[Zp2];refine(HY.out.fput HH.out.ok.ta.ft (Z1i (v / 8)) (Z1o N) (by simp[Z1i])).mono ?_
   rintro e w' ⟨D2,tv',rfl,h1,h2⟩;rw[HONE.out];exact⟨rfl,D2,⟨⟨_,_,_,_,h1⟩,HH.out.ok.ta.put _ _ (by simp[Z1i]),HH.out.ok.oi⟩,h2⟩)
  clear hc hN HONE;go_enter Tryz.func145,Tryz.ntmps145;go_wp2_with fail;rw[HFILE.out];go_loopw [8,9,10] (fun nv s i wr=>∃(j m:Nat)(l:B),nv=.int .i64 m∧s=S l∧j≤5∧i=.int .i64 j∧wr=w∧Hid (m=N / 2 ^ j)∧Hid (l=lowB N j∧l.length=j)) (fun _ _ i _=>5-(intOf i).toNat)
  case atStart=>exact⟨0,N,[],by rw[HNN.out];first|rfl|(congr 1;omega)|congr 1,rfl,by omega,rfl,rfl,Q0 (by simp),Q0 ⟨rfl,rfl⟩⟩
  case round=>
   obtain⟨j,m,l,rfl,rfl,hj,rfl,rfl,HM,HL⟩:=hrel;by_cases hlt:j<5
   ·have hltz:(j:Int)<5:=by omega
    have hm0:(0:Int)≤(m:Int):=by omega
    have hmz:(m:Int)≤100:=by have h1:=HM.out;have h2:=HNN.out;have h3:=Nat.div_le_self N (2 ^ j);have h4:=Nat.mod_lt (v / 8 / 3) (by decide:0<32);omega
    have hll:¬9223372036854775807<1+l.length:=by have:=HL.out.2;omega
    have hb1:=Z1e [120] l;have hb2:=Z1e [10] l;have HB:=Q0 (bitB_odd N j m HM.out);have HM2:Hid (m / 2=N / 2 ^ (j+1)):=Q0 (by rw[HM.out,Nat.div_div_eq_div_mul,Nat.pow_succ])
    have HJ:=Q0 hlt;by_cases ho:m % 2=1
    ·have hbo:((m:Int) % 2==1)=true:=beq_iff_eq.2 (by omega)
     have HL2:Hid ([120]++l=lowB N (j+1)∧([120]++l).length=j+1):=Q0 ⟨by rw[HL.out.1,Zgg,HB.out,if_pos ho];rfl,by rw[List.length_append,HL.out.2];simp;omega⟩
     clear ho hj hlt;go_wp2_with fail;go_roundw
     case rel=>exact⟨j+1,m / 2,[120]++l,by first|rfl|(congr 1;omega)|(congr 1),by first|rfl|rw[←hb1]|simp[←hb1],HJ.out,by go_num,by first|trivial|rfl,HM2,HL2⟩
     case measure=>have:=HJ.out;simp[intOf];omega
    ·have hbo:((m:Int) % 2==1)=false:=Q3 (by omega)
     have HL2:Hid ([10]++l=lowB N (j+1)∧([10]++l).length=j+1):=Q0 ⟨by rw[HL.out.1,Zgg,HB.out,if_neg ho];rfl,by rw[List.length_append,HL.out.2];simp;omega⟩
     clear ho hj hlt;go_wp2_with fail;go_roundw
     case rel=>exact⟨j+1,m / 2,[10]++l,by first|rfl|(congr 1;omega)|(congr 1),by first|rfl|rw[←hb2]|simp[←hb2],HJ.out,by go_num,by first|trivial|rfl,HM2,HL2⟩
     case measure=>have:=HJ.out;simp[intOf];omega
   ·obtain rfl:j=5:=by omega
    obtain⟨rfl,_⟩:=HL.out;clear hlt hj HL;go_wp2_with fail;refine HPUT.out.mono ?_;rintro e w2 ⟨rfl,hp⟩;have HP:=Q0 hp;clear hp;go_wp2_with fail;go_ret;exact⟨rfl,HP.out⟩
def RetPlayM(w0 w:World)(D:Nat→Prop)(n:Nat)(x:PS)(zs:List Int)(e:Ending)(w':World):Prop:=
 ∃vo D2,e=.returned vo∧RowZ w.heap.size w' vo (Z2q x zs).2∧Z1s w0 w' D2 n (Z2q x zs).1∧Moved D w w' D2∧∀i,vo.ownBlock=some i→¬D2 i
structure Z6c(w0 w:World)(D:Nat→Prop)(n:Nat)(x:PS)(cs:List Int)(bs:Nat)(qv:Value)(wr:World):Prop where
 play:∃D2,Z1s w0 wr D2 n x∧Moved D w wr D2∧∀i,qv.ownBlock=some i→¬D2 i
 row:RowZ bs wr qv cs
section
variable {w0 w wr w':World}{D:Nat→Prop}{n bs:Nat}{x x':PS}{cs:List Int}{qv v:Value}{zs:List Int}
theorem Z6c.only(h:Z6c w0 w D n x cs bs qv wr):Only D w wr:=by
 obtain⟨D2,_,h2,_⟩:=h.play;exact h2.1
theorem Z6c.push{c:Int}{qv':Value}(h:Z6c w0 w D n x cs bs qv wr)(hb:w.heap.size≤bs)(hw:w0.heap.size≤w.heap.size)(hr:RowZ bs w' qv' (cs++[c]))(hg:wr.grownBy w' qv.ownBlock)(hn:∀i,qv'.ownBlock=some i→qv.ownBlock=some i∨wr.heap.size≤i):Z6c w0 w D n x (cs++[c]) bs qv' w':=by
 obtain⟨D2,h1,h2,h3⟩:=h.play;have ho:Only (fun i=>qv.ownBlock=some i) wr w':=Only.of_grown hg
 refine⟨⟨D2,h1.other ho (fun i e=>⟨by have:=(h.row.lt i e).1;omega,h3 i e⟩),⟨h2.1.trans ho (fun _ _ h=>h) (fun i hi e=>by have:=(h.row.lt i e).1;omega),h2.2⟩,fun i e=>?_⟩,hr⟩
 rcases hn i e with k|k
 ·exact h3 i k
 ·intro e2
  have:=(h1.lt i e2).2
  omega
theorem Z6c.one(h:Z6c w0 w D n x cs bs qv wr)(z:Nat)(hz:z≤9223372036854775807) :
  Calls Tryz.prog 145 #[PTR (n+3),I z] wr (fun e w'=>e=.returned (IN (oneP x z).2)∧Z6c w0 w D n (oneP x z).1 cs bs qv w'):=by
 obtain⟨D2,h1,h2,h3⟩:=h.play;refine(oneM_any z h1 hz).mono ?_;rintro e w' ⟨rfl,D3,k1,k2⟩;refine⟨rfl,⟨D3,k1,h2.then k2,fun i e e3=>?_⟩,k2.1.row h.row (fun i e=>h3 i e)⟩
 rcases k2.2 i e3 with k|k
 ·exact h3 i e k
 ·have:=(h.row.lt i e).2
  omega
theorem Zm3(wr:World)(n:Nat)(z:Int)(hz:z<0):Calls Tryz.prog 145 #[PTR n,I z] wr (fun e w'=>e=.returned (I (-1))∧w'=wr):=by
 go_enter Tryz.func145,Tryz.ntmps145
 go_wp2_with fail;go_ret
 exact⟨rfl,rfl⟩
theorem Zfx(h:Z1s w0 w D n x)(hv:Holds (fun i=>¬D i) w (fun w'=>Rd I w' v zs))(hl:zs.length≤3000)(hz:∀z∈zs,z≤9223372036854775807) :
  Calls Tryz.prog 81 #[PTR (n+3),v] w (RetPlayM w0 w D n x zs):=by
 have HZ:=Q0 hz;have HRD:=Q0 (fun w' (ho:Only D w w')=>hv w' D ho (fun i e _ k=>k e))
 have HX0:=Q0 h.ext.size;obtain⟨a,cap,hve,hcap,hm,_⟩:=hv.now;subst hve;have hplz:(zs.length:Int)≤3000:=by omega
 obtain⟨bs,hbs⟩:∃bs,bs=w.heap.size:=⟨_,rfl⟩;have HBS:Hid (w.heap.size≤bs∧bs≤w.heap.size):=Q0 ⟨by omega,by omega⟩
 have HR0:Hid (Z6c w0 w D n x [] bs (.slice none 0 0) w):=Q0 ⟨⟨D,h,Moved.ext (Only.refl _ _),fun i e=>by cases e⟩,World.ownsRow_nil _ _ _ _⟩
 clear h hv hz hbs hm hcap;go_enter Tryz.func81,Tryz.ntmps81;go_wp2_with fail;go_loopw [5,6,7] (fun q i _ wr=>∃(j:Nat)(qv:Value),qv=q∧j≤zs.length∧i=.int .i64 j∧Hid (Z6c w0 w D n (Z2q x (zs.take j)).1 (Z2q x (zs.take j)).2 bs qv wr)) (fun _ i _ _=>zs.length-(intOf i).toNat)
 case atStart=>exact⟨0,_,rfl,Nat.zero_le _,rfl,HR0⟩
 case round=>
  clear HR0;obtain⟨j,qv,rfl,hj,rfl,HR⟩:=hrel;by_cases hlt:j<zs.length
  case pos=>
   have hltz:(j:Int)<(zs.length:Int):=by omega
   have hj0:(0:Int)≤(j:Int):=by omega
   have hj3:(j:Int)<3000:=by omega
   obtain⟨_,_,ee,_,_,hc0⟩:=HRD.out _ HR.out.only;cases ee;obtain⟨b,off,rfl,hcell⟩:=hc0 (by intro h;rw[h]at hlt;simp at hlt)
   obtain⟨z,hzj⟩:∃y,zs[j]?=some y:=⟨_,Q1 hlt⟩;have d0:=hcell j z hzj;have HST:=Q0 (Zcn (x:=x) hzj);have HZM:Hid (z≤9223372036854775807):=Q0 (HZ.out z (Q4 hzj));have HLC:Hid ((Z2q x (zs.take j)).2.length≤1000000):=Q0 (by rw[Zfy,List.length_take];omega)
   have HJ:=Q0 hlt;clear hcell hc0 hzj hj hlt;generalize Z2q x (zs.take j)=XX at HR HST HLC;obtain⟨y,cs⟩:=XX;have hone:∃(y2:PS)(c:Int),numP y z=(y2,c)∧Calls Tryz.prog 145 #[PTR (n+3),I z] wr (fun e w'=>e=.returned (I c)∧Z6c w0 w D n y2 cs bs qv w'):=by
    by_cases hneg:z<0
    ·refine⟨y,-1,by unfold numP;rw[if_pos hneg],(Zm3 wr (n+3) z hneg).mono ?_⟩
     rintro e w' ⟨rfl,rfl⟩;exact⟨rfl,HR.out⟩
    ·obtain⟨m,rfl⟩:∃m:Nat,z=(m:Int):=⟨z.toNat,by omega⟩
     refine⟨(oneP y m).1,((oneP y m).2:Int),by unfold numP;rw[if_neg hneg,Int.toNat_natCast],HR.out.one m (by have:=HZM.out;omega)⟩
   obtain⟨y2,c,hnum,hon⟩:=hone;have HON:=Q0 hon;have HN:Hid (Z2q x (zs.take (j+1))=(y2,cs++[c])):=Q0 (by rw[HST.out];show ((numP y z).1,cs++[(numP y z).2])=_;rw[hnum])
   clear hnum hon HST;go_wp2_with fail;refine HON.out.mono ?_;rintro e w3 ⟨rfl,hr3⟩;have HR3:=Q0 hr3;clear hr3 d0;go_wp2_with (at_builtin;refine wpZ rfl (.tmp 24) (.tmp 26) bs qv cs c w3 rfl rfl rfl rfl HR3.out.row HLC.out (Nat.le_trans HBS.out.2 HR3.out.only.size) ?_;intro g5 cap5 w5 HR5 HG5 HD5);go_roundw
   case rel=>exact⟨j+1,_,rfl,HJ.out,by go_num,by rw[HN.out];exact Q0 (HR3.out.push HBS.out.1 HX0.out HR5.out HG5.out HD5.out)⟩
   case measure=>have:=HJ.out;simp[intOf];omega
  case neg=>
   have hltz:¬(j:Int)<(zs.length:Int):=by omega
   rw[List.take_of_length_le (by omega)]at HR
   go_wp2_with fail;go_ret
   obtain⟨D2,h1,h2,h3⟩:=HR.out.play;exact⟨_,D2,rfl,World.ownsRow.mono HR.out.row HBS.out.1,h1,h2,h3⟩
end
theorem Z09.older0{w00 w0 w:World}{D:Nat→Prop}{n:Nat}{tv ov cv:Value}{many:Nat}{T O L:FL}(h:Z09 w0 w D n tv ov (.slice none 0 0) cv many T O L [])(hx:Ext w00 w0):Z09 w00 w D n tv ov (.slice none 0 0) cv many T O L []:=
 { h with ext:=hx.then h.ext,low:=Nat.le_trans hx.size h.low,rules:=(Holds.of (RdR.nil w00) (hx.then h.ext)).mono (fun _ _ h=>.inl h) }
def RetMPY(w00 w:World)(e:Ending)(w':World):Prop:=e=.returned (PTR (w.heap.size+3))∧∃D,Z1s w00 w' D w.heap.size ⟨[],[],[]⟩∧(∀i,D i→w.heap.size≤i)∧Ext w w'
theorem Z2d.holds{B:Nat→Prop}{w:World}{v:Value}{l:List Rule}(h:Z2d B w v l):Holds B w (fun w'=>RdR w' v l):=fun w' q ho hq=>by
 have ho2:Only (fun i=>q i∧i<w.heap.size) w w':=ho.mono (fun i hi e=>⟨e,hi⟩)
 exact(h.later ho2 (fun i e=>hq i e.1 e.2)).rd
theorem Zdt(w00 w:World)(hx:Ext w00 w):Calls Tryz.prog 80 #[] w (RetMPY w00 w):=by
 have HX:=Q0 hx;clear hx;go_enter Tryz.func80,Tryz.ntmps80;go_wp2_with fail;refine(Zg6 8 w (by decide)).mono ?_
 rintro e w1 ⟨rfl,hy⟩;have HY:=Q0 (hy.older0 HX.out);have HEX:=Q0 hy.ext;obtain⟨n,hn⟩:∃n,n=w.heap.size:=⟨_,rfl⟩;have HN:=Q0 hn;rw[←hn]at HY ⊢;clear hy hn;go_wp2_with fail;refine(Z5z w1).mono ?_;rintro e w2 ⟨v,rfl,hr,ho,hri⟩;obtain⟨a2,c2,hve,_⟩:=id hr;subst hve;have hs1:=HY.out.lt (n+3) ⟨by omega,by omega⟩
 have hy2:=HY.out.grow ho;have hlay:=hy2.laid (E:=fun i=>n+4≤i∧i<w2.heap.size) (l:=Z0a) (fun i e=>⟨e.1,e.2,fun k=>by omega⟩) ((hri.mono (B':=fun i=>n+4≤i∧i<w2.heap.size) (fun i hi e=>⟨by omega,hi⟩)).holds.mono (fun i _ e=>.inr e))
 have HLAY:=Q0 hlay;have HEND:Hid (Ext w (w2.setCell ⟨n+3,2,none⟩ (.slice a2 Z0a.length c2))):=Q0 (((HEX.out.then ho).trans (Only.set (p:=fun i=>i=n+3) _ rfl) (fun _ _ h=>h) (fun i hi e=>by have:=HN.out;omega)))
 have k2:=(hy2.cell 2).trans (rfl:_=some (Value.slice none 0 0));have kf:=Z02 hy2.cells 2;have HGE:Hid (∀i,(((n≤i∧i<n+4)∨(n+4≤i∧i<w2.heap.size))→n≤i)):=Q0 (fun i e=>by omega)
 clear hr ho hri hs1 hy2 hlay;go_wp2_with fail;go_ret;refine⟨by rw[←HN.out];rfl,_,⟨⟨_,_,_,_,by rw[←HN.out];exact HLAY.out⟩,PSok.start⟩,fun i e=>by rw[←HN.out];exact HGE.out i e,HEND.out⟩
theorem Zfg{P:Program}(hP:P=Tryz.prog){ops:Array Oper}{o:Oper}{a:Act}{K:Act→World→Prop}{Q:Exit→Act→World→Prop}{E:Prop}(s x:Operand)(vk:Value)(ps:List Int)(W:World)(hgd:o.guard=none)
  (ho:o.op=.call { callee:=.builtin .append,args:=#[s,x],argTypes:=#[46,46] }) (hs:a.eval s=.slice none 0 0) (hx:a.eval x=vk) (hv:Rd I W vk ps) (hl:ps.length≤1000000)
  (hK:∀v' w',Hid (Rd I w' v' ps)→Hid (Ext W w')→Hid (∀i,v'.ownBlock=some i→W.heap.size≤i∧i<w'.heap.size)→K (a.put o.dst v') w'):if Region.wanted o (yielded ops a.tmps)=true then Oper.wp P o a W K Q else E:=by
 subst hP;simp only[Region.wanted,hgd,if_true];obtain⟨ao,cap,rfl,_,_,hc⟩:=hv;cases ao with
 | none=>
  have hp:ps=[]:=Classical.byContradiction fun hne=>by obtain⟨_,_,h,_⟩:=hc hne;cases h
  subst hp;have hrun:(Builtin.append_ #[46,46] o.type #[.slice none 0 0,.slice none 0 cap]).run Tryz.prog W=.ok (.slice none 0 0) W:=by kernel_rfl
  unfold Oper.wp execOp;simp only[ho,resolve,invoke,builtin,Sem.run_bind,Sem.run_pure,Result.andThen_ok,List.map_toArray,List.map_cons,List.map_nil,hs,hx,List.length_nil,hrun];exact hK _ W (Q0 ⟨none,0,rfl,Nat.le_refl _,Nat.zero_le _,fun h=>absurd rfl h⟩) (Q0 (Only.refl _ _)) (Q0 (fun i e=>by cases e))
 | some ad=>
  have hcells:∀j u,(ps.map I)[j]?=some u→W.cell? (ad.add j)=some u:=fun j u hu=>by
   rw[List.getElem?_map]at hu;obtain⟨y,hy,rfl⟩:=Option.map_eq_some_iff.1 hu;obtain⟨b,off,he,hcell⟩:=hc (by intro e;rw[e]at hy;cases hy)
   cases he;rw[Z97];exact hcell j y hy
  obtain⟨i0,hi,hz0,hz1,hz2⟩:=info_parts (P:=Tryz.prog) (e:=3) Z8z;obtain⟨v',w',hr,h2,h3,_,h5⟩:=run_append_own_at (P:=Tryz.prog) W W.heap.size 46 o.type 3 i0 _ 1 8 Tryz.underlying46 hi hz0 hz1 hz2 rfl (by decide) (.slice none 0 0) 0 [] (World.ownsRow_nil _ _ _ _) ad ps.length cap (ps.map I) (by simp) hcells (fun u hu=>by obtain⟨y,_,rfl⟩:=List.mem_map.1 hu;rfl) (by unfold maxLen;omega) (by omega) (Nat.le_refl _)
  unfold Oper.wp execOp;simp only[ho,resolve,invoke,builtin,Sem.run_bind,Sem.run_pure,Result.andThen_ok,List.map_toArray,List.map_cons,List.map_nil,hs,hx,hr];rw[Nat.zero_add,List.nil_append]at h2;exact hK _ w' (Q0 (Rd.of_row h2)) (Q0 ((Only.of_grown h3).mono fun _ _ h=>by cases h)) (Q0 (fun i e=>h2.lt i e))
set_option linter.unusedSimpArgs false in
theorem Zfa(w:World)(P:Nat→Addr)(zs:List Int)(v0:Value)(hv0:Rd I w v0 zs)(hz:∀z∈zs,z≤9223372036854775807)(hV:PV w P [1,2,3,4,5,6,7,8,9,10,11])(hS:Sents w P) :
  Calls Tryz.prog 10 #[v0] w (RetE (.bool true) w):=by
 have H0:=Q0 hv0;have HV:=Q0 hV;have HS:=Q0 hS;have HZ:=Q0 hz;have HPD:=Q0 (Zlt w P hV hS);obtain⟨a0,q0,rfl,_,hm0,_⟩:=hv0;have hr0:zs.length≤9223372036854775807:=by unfold maxLen at hm0;omega
 clear hV hS hz hm0;go_enter Tryz.func10,Tryz.ntmps10;go_wp2_with fail;refine(HPD.out).mono ?_;rintro e w1 ⟨rfl,ho⟩;have HX1:=Q0 ho;clear ho;by_cases hl:(100:Int)<(zs.length:Int)
 ·go_wp2_with fail
  go_ret;exact⟨rfl,HX1.out⟩
 have hlz:(zs.length:Int)≤100:=by omega
 have HL:Hid (zs.length≤100):=Q0 (by omega)
 clear hr0;go_wp2_with fail;refine(Zav w1 P (HV.out.ext HX1.out)).mono ?_;rintro e w2 ⟨rfl,Da,hpa⟩;obtain⟨na,hna⟩:∃na,na=w1.heap.size:=⟨_,rfl⟩;rw[←hna]at hpa ⊢;have HPA:=Q0 hpa;clear hpa hna;go_wp2_with fail;refine(Zdt w1 w2 HPA.out.ext).mono ?_;rintro e w3 ⟨rfl,Db,hpb,hge,hx3⟩;obtain⟨nb,hnb⟩:∃nb,nb=w2.heap.size:=⟨_,rfl⟩;have hab:∀i,Da i→¬Db i:=fun i e1 e2=>by have:=(HPA.out.lt i e1).2;have:=hge i e2;omega
 rw[←hnb]at hpb ⊢;have HPA3:=Q0 (HPA.out.grow hx3);have HPB3:=Q0 hpb;have HAB:=Q0 hab;have HX3:Hid (Ext w1 w3):=Q0 (HPA.out.ext.then hx3);clear hpb hnb hab HPA hge hx3;have HK:=Q0 (fun(W:World) (D:Nat→Prop) (y:PS) (h:Z1s w1 W D nb y)=>(by
  obtain⟨tv,ov,lv,cv,hy⟩:=h.at_;exact(hy.cell 0).trans (rfl:_=some (PTR nb)):W.cell? ⟨nb+3,0,none⟩=some (PTR nb)))
 have HPA4:=Q0 (HPA3.out.grow (Only.drew (fun _=>False) w3))
 have HPB4:=Q0 (HPB3.out.grow (Only.drew (fun _=>False) w3))
 have HRA:=Q0 (H0.out.ext (HX1.out.then HX3.out.thenDrew));clear HPA3 HPB3;go_wp2_with fail;refine wp_region_held_drew (S:=fun w'=>w'.cell? ⟨nb+3,0,none⟩=some (PTR nb)) (by kernel_rfl) (HK.out _ _ _ HPB4.out) (fun hHeld=>?_)
 refine Z1u 0 ?_;refine Z1u 1 ?_;refine Z1u 2 ?_;refine Z1u 5 ?_;refine Z1u 6 ?_;refine wpAnyH_ready (rs:=[3]) (by kernel_rfl) (by simp) ?_
 refine AllReadyH.cons rfl (fun K hK=>?_) AllReadyH.nil
 refine Zfg rfl (.tmp 21) (.tmp 22) _ zs _ rfl rfl rfl rfl HRA.out (by have:=HL.out;omega) ?_
 intro v4 w4 HR4 HX4 HO4
 have HPA5:=Q0 (HPA4.out.grow HX4.out);have HPB5:=Q0 (HPB4.out.grow HX4.out);refine hK.out _ _ (HK.out _ _ _ HPB5.out) (fun hHeld=>?_)
 clear hK K;try simp only[Act.put,List.setIfInBounds_toArray,List.set_cons_zero,List.set_cons_succ]
 have hru:=Zau P HPA5.out (Holds.rdI HR4.out (fun i e k=>by
  have h1:=(HO4.out i e).1;have h2:=(HPA4.out.lt i k).2;omega)) (by have:=HL.out;omega) HZ.out (HV.out.ext HX1.out) (HS.out.ext HX1.out)
 have HRU:=Q0 hru;clear hru;refine wpAnyH_ready (rs:=[4]) (by kernel_rfl) (by simp) ?_
 refine AllReadyH.cons (o:=_) rfl (fun K hK=>?_) AllReadyH.nil
 go_simp;go_at_call 78
 refine(HRU.out).mono ?_;rintro e w5 ⟨va,Da2,rfl,hrow5,hpa5,hmv5,_⟩;have HPA6:=Q0 hpa5;have HPB6:=Q0 (HPB5.out.other hmv5.1 (fun i e=>⟨(HPA5.out.lt i e).1,HAB.out i e⟩))
 refine hK.out _ _ (HK.out _ _ _ HPB6.out) (fun hHeld=>?_)
 clear hK K;try simp only[Act.put,List.setIfInBounds_toArray,List.set_cons_zero,List.set_cons_succ]
 have HROW6:=Q0 hrow5;have HAB2:Hid (∀i,Db i→¬Da2 i):=Q0 (fun i e1 e2=>by
  rcases hmv5.2 i e2 with k|k
  ·exact HAB.out i k e1
  ·have:=(HPB5.out.lt i e1).2;omega)
 have HX6:Hid (Ext w w5):=Q0 (HX1.out.then HPA6.out.ext);have HOLD:Hid (Holds (fun i=>¬Db i) w5 (fun w'=>Rd I w' (.slice a0 zs.length q0) zs)):=Q0 (fun w' q ho hq=>H0.out.ext (HX6.out.trans ho (fun _ _ h=>h) (fun i hi e=>by
  have hd:Db i:=Classical.byContradiction (fun k=>hq i e (Nat.lt_of_lt_of_le hi HX6.out.size) k)
  have h1:=(HPB6.out.lt i hd).1;have h2:=HX1.out.size;omega)))
 have HRM:=Q0 (Zfx HPB6.out HOLD.out (by have:=HL.out;omega) HZ.out)
 clear hrow5 hpa5 hmv5 HRU;refine wpAnyH_ready (rs:=[7]) (by kernel_rfl) (by simp) ?_
 refine AllReadyH.cons (o:=_) rfl (fun K hK=>?_) AllReadyH.nil
 go_simp;go_at_call 81
 refine(HRM.out).mono ?_;rintro e w6 ⟨vb,Db2,rfl,hrow6,hpb6,hmv6,_⟩;have HPB7:=Q0 hpb6;have HPA7:=Q0 (HPA6.out.other hmv6.1 (fun i e=>⟨(HPB6.out.lt i e).1,HAB2.out i e⟩))
 refine hK.out _ _ (HK.out _ _ _ HPB7.out) (fun hHeld=>?_)
 clear hK K;try simp only[Act.put,List.setIfInBounds_toArray,List.set_cons_zero,List.set_cons_succ]
 have hra7:=hmv6.1.row HROW6.out (fun i e e2=>by
  have:=(HROW6.out.lt i e).1
  have:=(HPB5.out.lt i e2).2
  omega)
 have hsi:=Z9c w6 _ _ _ _ (RowZ.rd hra7) (RowZ.rd hrow6);simp only[beq_self_eq_true]at hsi;have HSI:=Q0 hsi;have HOK:=Q0 HPB7.out.ok;clear hra7 hrow6 hpb6 hmv6 hsi HRM HROW6;generalize (Z2q ⟨[],[],[]⟩ zs).2=codes at HSI;generalize (Z2q ⟨[],[],[]⟩ zs).1=x at HPA7 HPB7 HOK;refine wpAnyH_ready (rs:=[8]) (by kernel_rfl) (by simp) ?_
 refine AllReadyH.cons (o:=_) rfl (fun K hK=>?_) AllReadyH.nil
 go_simp;go_at_call 65
 refine(HSI.out).mono ?_;rintro e w7 ⟨rfl,hd7⟩;have HPA8:=Q0 (HPA7.out.grow hd7.ext);have HPB8:=Q0 (HPB7.out.grow hd7.ext);refine hK.out _ _ (HK.out _ _ _ HPB8.out) (fun hHeld=>?_)
 clear hK K;try simp only[Act.put,List.setIfInBounds_toArray,List.set_cons_zero,List.set_cons_succ]
 clear hd7 HSI;refine Z1u 9 ?_;refine Z1u 10 ?_;refine Z1u 12 ?_;have hfo:=HOK.out.oi.ftree (Z0k Z23).1;have hft:=HOK.out.ta.ft;have hsm:Calls Tryz.prog 79 #[PTR (na+6)] w7 (RetE (S (sumP x)) w7):=Zib P HPA8.out (HV.out.ext HX1.out);have hmm:∀wq,Ext w7 wq→Calls Tryz.prog 82 #[PTR (nb+3)] wq (RetE (S (sumP x)) wq):=fun wq hq=>by
  obtain⟨tv,ov,lv,cv,hy⟩:=(HPB8.out.grow hq).at_;have hs6:(Z0m (Z26 Z0a x.T x.O)).length≤6:=by rw[Z5v];exact(Z5b x).1
  have hsl:=Zae (l:=Z0m (Z26 Z0a x.T x.O)) fun s hs=>by have:=(Z5b x).2 s ((List.mergeSort_perm _ _).mem_iff.1 hs);omega
  have hs7:(Z0m (Z26 Z0a x.T x.O)).length*2000≤6*2000:=Nat.mul_le_mul_right _ hs6;have htl:=Z2z hfo.lens hfo.fits.bytes x.O.length;rw[List.take_length]at htl;have htl2:(Z48 x.O).length≤3100*60:=Nat.le_trans htl (Nat.mul_le_mul_left _ hfo.fits.few);have hj:=Zcy x;exact sumM_any hy Z23 hft hfo hfo.lens hfo.fits.bytes hfo.fits.few (by omega) (by omega) (by omega) (by omega)
 have htr:∀wq,Ext w7 wq→Calls Tryz.prog 36 #[PTR (na+6)] wq (RetSt (PTR (na+3)) wq):=fun wq hq=>by
  obtain⟨sv,lv,hy⟩:=(HPA8.out.grow hq).at_;exact Z5t hy
 have htx:∀wq,Ext w7 wq→Calls Tryz.prog 31 #[PTR (na+3)] wq (RetE (S (Z48 x.T)) wq):=fun wq hq=>by
  have hx:=HPA8.out.grow hq;obtain⟨sv,lv,hy⟩:=hx.at_;exact Zjn wq (na+3) (na+2) x.T hy.tree hft.fits.rising hft.lens hft.fits.bytes hft.fits.few ((HV.out.ext HX1.out).ext hy.ext).pow
 have htm:∀wq,Ext w7 wq→Calls Tryz.prog 32 #[PTR nb] wq (RetE (S (Z48 x.T)) wq):=fun wq hq=>by
  obtain⟨tv,ov,lv,cv,hy⟩:=(HPB8.out.grow hq).at_;exact Zfe wq nb nb tv x.T hy.tree hft.lens hft.fits.bytes hft.fits.few
 have HSM:=Q0 hsm;have HMM:=Q0 hmm;have HTR:=Q0 htr;have HTX:=Q0 htx;have HTM:=Q0 htm;have HKX:=Q0 (fun wq (hq:Ext w7 wq)=>HK.out _ _ _ (HPB8.out.grow hq))
 have HXE:Hid (Ext w w7):=Q0 (HX1.out.then HPA8.out.ext);clear hsm hmm htr htx htm hfo hft HOK HPA7 HPB7;generalize sumP x=sm at HSM HMM;generalize Z48 x.T=tx at HTX HTM;refine wpAnyH_ready (rs:=[11]) (by kernel_rfl) (by simp) ?_
 refine AllReadyH.cons (o:=_) rfl (fun K hK=>?_) AllReadyH.nil
 go_simp;go_at_call 79
 refine(HSM.out).mono ?_;rintro e w8 ⟨rfl,ho8⟩;have HX8:=Q0 ho8;clear ho8;refine hK.out _ _ (HKX.out _ HX8.out) (fun hHeld=>?_)
 clear hK K;try simp only[Act.put,List.setIfInBounds_toArray,List.set_cons_zero,List.set_cons_succ]
 refine wpAnyH_ready (rs:=[13]) (by kernel_rfl) (by simp) ?_
 refine AllReadyH.cons (o:=_) rfl (fun K hK=>?_) AllReadyH.nil
 go_simp;go_at_call 82
 refine(HMM.out _ HX8.out).mono ?_;rintro e w9 ⟨rfl,ho9⟩;have HX9:=Q0 (HX8.out.then ho9);refine hK.out _ _ (HKX.out _ HX9.out) (fun hHeld=>?_)
 clear hK K;try simp only[Act.put,List.setIfInBounds_toArray,List.set_cons_zero,List.set_cons_succ]
 refine Z1u 14 ?_;refine Z1u 15 ?_;refine Z1u 16 ?_;refine Z1u 17 ?_;refine Z1u 20 ?_;refine Z1u 21 ?_;refine Z1u 22 ?_;refine Z1u 23 ?_;refine wpAnyH_ready (rs:=[18]) (by kernel_rfl) (by simp) ?_
 refine AllReadyH.cons (o:=_) rfl (fun K hK=>?_) AllReadyH.nil
 go_simp;go_at_call 36
 refine(HTR.out _ HX9.out).mono ?_;rintro e w10 ⟨rfl,rfl⟩;refine hK.out _ _ (HKX.out _ HX9.out) (fun hHeld=>?_)
 clear hK K;try simp only[Act.put,List.setIfInBounds_toArray,List.set_cons_zero,List.set_cons_succ]
 refine wpAnyH_ready (rs:=[19]) (by kernel_rfl) (by simp) ?_
 refine AllReadyH.cons (o:=_) rfl (fun K hK=>?_) AllReadyH.nil
 go_simp;go_at_call 31
 refine(HTX.out _ HX9.out).mono ?_;rintro e w11 ⟨rfl,ho11⟩;have HX11:=Q0 (HX9.out.then ho11);refine hK.out _ _ (HKX.out _ HX11.out) (fun hHeld=>?_)
 clear hK K;try simp only[Act.put,List.setIfInBounds_toArray,List.set_cons_zero,List.set_cons_succ]
 refine wpAnyH_ready (rs:=[24]) (by kernel_rfl) (by simp) ?_
 refine AllReadyH.cons (o:=_) rfl (fun K hK=>?_) AllReadyH.nil
 go_simp;go_at_call 32
 refine(HTM.out _ HX11.out).mono ?_;rintro e w12 ⟨rfl,ho12⟩;have HX12:=Q0 (HX11.out.then ho12);refine hK.out _ _ (HKX.out _ HX12.out) (fun hHeld=>?_)
 clear hK K;try simp only[Act.put,List.setIfInBounds_toArray,List.set_cons_zero,List.set_cons_succ]
 refine Z1u 25 ?_;refine Z1u 26 ?_;refine Z1u 27 ?_;refine wpAnyH_done (by kernel_rfl) ?_ _
 go_wp2_with fail;go_ret
 exact⟨rfl,HXE.out.then HX12.out⟩
end Go.Proofs.YtnmhaipjfpongacGreatDoor
