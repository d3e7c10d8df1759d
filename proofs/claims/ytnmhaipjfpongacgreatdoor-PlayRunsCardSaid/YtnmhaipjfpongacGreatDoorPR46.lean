/- A part of this claim's proof;each theorem bears its own conditions. -/
import Derived.Test.YtnmhaipjfpongacGreatDoorPR43
set_option maxRecDepth 100000
set_option maxHeartbeats 8000000
namespace Go.Proofs.YtnmhaipjfpongacGreatDoor
open Go.ChangeShapes Go.WideShapes Go.ChangeAt Go.RowKit
abbrev BY(c:UInt8):Value:=.int .u8 (c.toNat:Int)
abbrev RowB(base:Nat)(w:World)(v:Value)(l:B):Prop:=w.ownsRow base 5 1 v l.length (l.map BY)
theorem infoByte:(Tryz.prog.info? 5).map (fun i=>(i.zero,i.size,i.bytes))=some (some (.int .u8 0),1,1):=by kernel_rfl
theorem Z6x{P:Program}(hP:P=Tryz.prog){ops:Array Oper}{rest:List Oper}{o:Oper}{a:Act}{Q:Exit→Act→World→Prop}(s x:Operand)(w0:World)(base:Nat)(v:Value)(l:B)(k:UInt8)(W:World)(hgd:o.guard=none)
  (ho:o.op=.call { callee:=.builtin .append,args:=#[s,x],argTypes:=#[167,167] }) (hs:a.eval s=v) (hx:a.eval x=.slice (some ⟨W.heap.size,0,none⟩) 1 1)
  (hrow:RowB base W v l) (hl:l.length≤1000000) (hbase:base≤W.heap.size) (hxt:Ext w0 W) (hb0:w0.heap.size≤base)
  (hK:∀g cap w',Hid (RowB base w' (.slice (some ⟨g,0,none⟩) (l.length+1) cap) (l++[k]))→Hid (Ext w0 w')→Hid (W.grownBy w' v.ownBlock)→
   wpList P ops Q rest (a.put o.dst (.slice (some ⟨g,0,none⟩) (l.length+1) cap)) w') :
  wpList P ops Q (o :: rest) a (W.alloc (.cells #[BY k] 5 (0,0))):=by
 subst hP;have hf:∀q:B,q.flatMap (fun k=>[BY k])=q.map BY:=fun q=>by induction q with
  | nil=>rfl
  | cons x q ih=>rw[List.flatMap_cons,List.map_cons,ih];rfl
 refine Z14 (fun k:UInt8=>[BY k]) 167 5 1 1 _ infoByte Tryz.underlying167 rfl (by decide) (fun _=>rfl) (fun _ u hu=>by cases List.mem_singleton.1 hu;rfl) (by decide) s x base v l k W _ rfl hgd ho hs hx (by rw[hf];exact hrow) hl hbase ?_
 intro g cap w' h1 h2 h3
 rw[hf]at h1;refine hK g cap w' (Q0 ?_) (Q0 (Z55 hxt (fun i hi=>Nat.le_trans hb0 (hrow.lt i hi).1) h2)) (Q0 h2)
 show World.ownsRow _ _ _ _ _ (l++[k]).length _
 rw[List.length_append];exact h1
theorem RowB.conv{base g cap:Nat}{w:World}{l:B}(h:RowB base w (.slice (some ⟨g,0,none⟩) l.length cap) l):(convert 167 9 (.slice (some ⟨g,0,none⟩) l.length cap)).run Tryz.prog w=.ok (S l) w:=
 run_convert_bytes_back (P:=Tryz.prog) w 167 9 5 ⟨g,0,none⟩ cap l Tryz.underlying167 Tryz.underlying5 Tryz.underlying9 (fun j hj=>by
  rw[Z97,Nat.zero_add,h.cellAt j (by omega),List.getElem?_map,Q1 hj]
  rfl)
theorem bit_is4(n:Nat)(hn:n<32):(bits BinOp.and IntKind.i64 ((n:Int) / 16) 1==1)=(bitB n 4==120):=by
 have h:∀m:Fin 32,(bits BinOp.and IntKind.i64 (((m:Nat):Int) / 16) 1==1)=(bitB m 4==120):=by decide +kernel
 exact h ⟨n,hn⟩
theorem bit_is3(n:Nat)(hn:n<32):(bits BinOp.and IntKind.i64 ((n:Int) / 8) 1==1)=(bitB n 3==120):=by
 have h:∀m:Fin 32,(bits BinOp.and IntKind.i64 (((m:Nat):Int) / 8) 1==1)=(bitB m 3==120):=by decide +kernel
 exact h ⟨n,hn⟩
theorem bit_is2(n:Nat)(hn:n<32):(bits BinOp.and IntKind.i64 ((n:Int) / 4) 1==1)=(bitB n 2==120):=by
 have h:∀m:Fin 32,(bits BinOp.and IntKind.i64 (((m:Nat):Int) / 4) 1==1)=(bitB m 2==120):=by decide +kernel
 exact h ⟨n,hn⟩
theorem bit_is1(n:Nat)(hn:n<32):(bits BinOp.and IntKind.i64 ((n:Int) / 2) 1==1)=(bitB n 1==120):=by
 have h:∀m:Fin 32,(bits BinOp.and IntKind.i64 (((m:Nat):Int) / 2) 1==1)=(bitB m 1==120):=by decide +kernel
 exact h ⟨n,hn⟩
theorem bit_is0(n:Nat)(hn:n<32):(bits BinOp.and IntKind.i64 ((n:Int)) 1==1)=(bitB n 0==120):=by
 have h:∀m:Fin 32,(bits BinOp.and IntKind.i64 (((m:Nat):Int)) 1==1)=(bitB m 0==120):=by decide +kernel
 exact h ⟨n,hn⟩
theorem Zbq(n i:Nat):bitB n i=120∨bitB n i=10:=by
 unfold bitB;split
 ·exact .inl rfl
 ·exact .inr rfl
theorem Zit(w:World)(n:Nat)(hn:n<32):Calls Tryz.prog 195 #[I n] w (RetE (S (Z1o n)) w):=by
 have hnz:(n:Int)<32:=by omega
 have hn0:(0:Int)≤(n:Int):=by omega
 obtain⟨bs,hbs⟩:∃bs,bs=w.heap.size:=⟨_,rfl⟩;have HBS:Hid (w.heap.size≤bs∧bs≤w.heap.size):=Q0 ⟨by omega,by omega⟩
 clear hbs;go_enter Tryz.func195,Tryz.ntmps195;go_wp2_with fail;go_loopw [3,4] (fun q i wr=>∃(j:Nat)(qv:Value)(l:B),qv=q∧j≤5∧i=.int .i64 (4-(j:Int))∧Hid (l=(Z1o n).take j)∧Hid (RowB bs wr qv l)∧Hid (Ext w wr)) (fun _ i _=>(intOf i+1).toNat)
 case atStart=>exact⟨0,_,[],rfl,by omega,rfl,Q0 rfl,Q0 (World.ownsRow_nil _ _ _ _),Q0 (Only.refl _ _)⟩
 case round=>
  obtain⟨j,qv,l,rfl,hj,rfl,HL,HQ,HX⟩:=hrel;rcases(show j=0∨j=1∨j=2∨j=3∨j=4∨j=5 by omega)with rfl|rfl|rfl|rfl|rfl|rfl
  ·have hb:=bit_is4 n hn
   have hl5:l.length≤1000:=by rw[HL.out,List.length_take];omega
   rcases Zbq n 4 with e|e
   all_goals
    rw[e]at hb;have hb:(bits BinOp.and IntKind.i64 ((n:Int) / 16) 1==1)=_:=hb;have HB:=Q0 e;have HL5:=Q0 hl5;clear e hl5
   ·go_wp2_with (at_builtin;refine Z6x rfl (.tmp 14) (.tmp 15) w bs qv l 120 wr rfl rfl rfl rfl HQ.out (Nat.le_trans HL5.out (by decide)) (Nat.le_trans HBS.out.2 HX.out.size) HX.out HBS.out.1 ?_;intro g5 cap5 w5 HR5 HX5 _)
    go_roundw
    case rel=>exact⟨1,_,l++[120],rfl,by omega,by first|rfl|go_num|simp,Q0 (by rw[HL.out,←HB.out];rfl),HR5,HX5⟩
    case measure=>simp[intOf]
   ·go_wp2_with (at_builtin;refine Z6x rfl (.tmp 17) (.tmp 18) w bs qv l 10 wr rfl rfl rfl rfl HQ.out (Nat.le_trans HL5.out (by decide)) (Nat.le_trans HBS.out.2 HX.out.size) HX.out HBS.out.1 ?_;intro g5 cap5 w5 HR5 HX5 _)
    go_roundw
    case rel=>exact⟨1,_,l++[10],rfl,by omega,by first|rfl|go_num|simp,Q0 (by rw[HL.out,←HB.out];rfl),HR5,HX5⟩
    case measure=>simp[intOf]
  ·have hb:=bit_is3 n hn
   have hl5:l.length≤1000:=by rw[HL.out,List.length_take];omega
   rcases Zbq n 3 with e|e
   all_goals
    rw[e]at hb;have hb:(bits BinOp.and IntKind.i64 ((n:Int) / 8) 1==1)=_:=hb;have HB:=Q0 e;have HL5:=Q0 hl5;clear e hl5
   ·go_wp2_with (at_builtin;refine Z6x rfl (.tmp 14) (.tmp 15) w bs qv l 120 wr rfl rfl rfl rfl HQ.out (Nat.le_trans HL5.out (by decide)) (Nat.le_trans HBS.out.2 HX.out.size) HX.out HBS.out.1 ?_;intro g5 cap5 w5 HR5 HX5 _)
    go_roundw
    case rel=>exact⟨2,_,l++[120],rfl,by omega,by first|rfl|go_num|simp,Q0 (by rw[HL.out,←HB.out];rfl),HR5,HX5⟩
    case measure=>simp[intOf]
   ·go_wp2_with (at_builtin;refine Z6x rfl (.tmp 17) (.tmp 18) w bs qv l 10 wr rfl rfl rfl rfl HQ.out (Nat.le_trans HL5.out (by decide)) (Nat.le_trans HBS.out.2 HX.out.size) HX.out HBS.out.1 ?_;intro g5 cap5 w5 HR5 HX5 _)
    go_roundw
    case rel=>exact⟨2,_,l++[10],rfl,by omega,by first|rfl|go_num|simp,Q0 (by rw[HL.out,←HB.out];rfl),HR5,HX5⟩
    case measure=>simp[intOf]
  ·have hb:=bit_is2 n hn
   have hl5:l.length≤1000:=by rw[HL.out,List.length_take];omega
   rcases Zbq n 2 with e|e
   all_goals
    rw[e]at hb;have hb:(bits BinOp.and IntKind.i64 ((n:Int) / 4) 1==1)=_:=hb;have HB:=Q0 e;have HL5:=Q0 hl5;clear e hl5
   ·go_wp2_with (at_builtin;refine Z6x rfl (.tmp 14) (.tmp 15) w bs qv l 120 wr rfl rfl rfl rfl HQ.out (Nat.le_trans HL5.out (by decide)) (Nat.le_trans HBS.out.2 HX.out.size) HX.out HBS.out.1 ?_;intro g5 cap5 w5 HR5 HX5 _)
    go_roundw
    case rel=>exact⟨3,_,l++[120],rfl,by omega,by first|rfl|go_num|simp,Q0 (by rw[HL.out,←HB.out];rfl),HR5,HX5⟩
    case measure=>simp[intOf]
   ·go_wp2_with (at_builtin;refine Z6x rfl (.tmp 17) (.tmp 18) w bs qv l 10 wr rfl rfl rfl rfl HQ.out (Nat.le_trans HL5.out (by decide)) (Nat.le_trans HBS.out.2 HX.out.size) HX.out HBS.out.1 ?_;intro g5 cap5 w5 HR5 HX5 _)
    go_roundw
    case rel=>exact⟨3,_,l++[10],rfl,by omega,by first|rfl|go_num|simp,Q0 (by rw[HL.out,←HB.out];rfl),HR5,HX5⟩
    case measure=>simp[intOf]
  ·have hb:=bit_is1 n hn
   have hl5:l.length≤1000:=by rw[HL.out,List.length_take];omega
   rcases Zbq n 1 with e|e
   all_goals
    rw[e]at hb;have hb:(bits BinOp.and IntKind.i64 ((n:Int) / 2) 1==1)=_:=hb;have HB:=Q0 e;have HL5:=Q0 hl5;clear e hl5
   ·go_wp2_with (at_builtin;refine Z6x rfl (.tmp 14) (.tmp 15) w bs qv l 120 wr rfl rfl rfl rfl HQ.out (Nat.le_trans HL5.out (by decide)) (Nat.le_trans HBS.out.2 HX.out.size) HX.out HBS.out.1 ?_;intro g5 cap5 w5 HR5 HX5 _)
    go_roundw
    case rel=>exact⟨4,_,l++[120],rfl,by omega,by first|rfl|go_num|simp,Q0 (by rw[HL.out,←HB.out];rfl),HR5,HX5⟩
    case measure=>simp[intOf]
   ·go_wp2_with (at_builtin;refine Z6x rfl (.tmp 17) (.tmp 18) w bs qv l 10 wr rfl rfl rfl rfl HQ.out (Nat.le_trans HL5.out (by decide)) (Nat.le_trans HBS.out.2 HX.out.size) HX.out HBS.out.1 ?_;intro g5 cap5 w5 HR5 HX5 _)
    go_roundw
    case rel=>exact⟨4,_,l++[10],rfl,by omega,by first|rfl|go_num|simp,Q0 (by rw[HL.out,←HB.out];rfl),HR5,HX5⟩
    case measure=>simp[intOf]
  ·have hb:=bit_is0 n hn
   have hl5:l.length≤1000:=by rw[HL.out,List.length_take];omega
   rcases Zbq n 0 with e|e
   all_goals
    rw[e]at hb;have hb:(bits BinOp.and IntKind.i64 ((n:Int)) 1==1)=_:=hb;have HB:=Q0 e;have HL5:=Q0 hl5;clear e hl5
   ·go_wp2_with (at_builtin;refine Z6x rfl (.tmp 14) (.tmp 15) w bs qv l 120 wr rfl rfl rfl rfl HQ.out (Nat.le_trans HL5.out (by decide)) (Nat.le_trans HBS.out.2 HX.out.size) HX.out HBS.out.1 ?_;intro g5 cap5 w5 HR5 HX5 _)
    go_roundw
    case rel=>exact⟨5,_,l++[120],rfl,by omega,by first|rfl|go_num|simp,Q0 (by rw[HL.out,←HB.out];rfl),HR5,HX5⟩
    case measure=>simp[intOf]
   ·go_wp2_with (at_builtin;refine Z6x rfl (.tmp 17) (.tmp 18) w bs qv l 10 wr rfl rfl rfl rfl HQ.out (Nat.le_trans HL5.out (by decide)) (Nat.le_trans HBS.out.2 HX.out.size) HX.out HBS.out.1 ?_;intro g5 cap5 w5 HR5 HX5 _)
    go_roundw
    case rel=>exact⟨5,_,l++[10],rfl,by omega,by first|rfl|go_num|simp,Q0 (by rw[HL.out,←HB.out];rfl),HR5,HX5⟩
    case measure=>simp[intOf]
  ·have hl5:l.length=5:=by rw[HL.out];rfl
   obtain⟨a,cap,hv⟩:∃a cap,qv=.slice a l.length cap:=by
    rcases HQ.out.2 with⟨h1,h2⟩|⟨g,cap,cur,h1,_⟩
    ·exact⟨none,0,by rw[h1,h2]⟩
    ·exact⟨_,_,h1⟩
   obtain⟨g,rfl⟩:∃g,a=some ⟨g,0,none⟩:=by
    rcases HQ.out.2 with⟨_,h2⟩|⟨g,cap',cur,h1,_⟩
    ·omega
    ·rw[hv]at h1;cases h1;exact⟨g,rfl⟩
   subst hv;have hcv:=HQ.out.conv;have HE:Hid (l=Z1o n):=Q0 (by rw[HL.out];rfl)
   rw[hl5]at hcv;rw[hl5];go_wp2_with fail;go_ret;exact⟨by rw[HE.out];rfl,HX.out⟩
theorem file_is(q:Nat):∀(h:q % 3<({ data:=#[97,98,99] }:ByteArray).size),Value.string (Utf8.encode ((({ data:=#[97,98,99] }:ByteArray)[q % 3]'h).toNat:Int))=S (Z1i q):=by
 intro h
 have hq:q % 3<3:=Nat.mod_lt _ (by decide)
 unfold Z1i;generalize q % 3=r at h hq;rcases(show r=0∨r=1∨r=2 by omega)with rfl|rfl|rfl
 ·exact congrArg Value.string (by decide +kernel:Utf8.encode 97=⟨#[97]⟩)
 ·exact congrArg Value.string (by decide +kernel:Utf8.encode 98=⟨#[98]⟩)
 ·exact congrArg Value.string (by decide +kernel:Utf8.encode 99=⟨#[99]⟩)
theorem Z2o.made{w0 w w':World}{P:Nat→Addr}{D:Nat→Prop}{n:Nat}{lv:Value}{x:PS}{os:List B}{e:Ending}(hx:PSok Z0a x)(h0:Z0r Z0a os=(0,-1))(h:RetMk P w0 w D n lv 8 x.T x.O x.L Z0a os e w') :
  ∃a b c d:Nat,e=.returned (.tuple #[.agg #[IN a,IN b,IN c,IN d],.nilIface])∧Z6d w0 w D n (Z61 Z0a 8 x os) w':=by
 obtain⟨cv,ev,rfl,he,hcase⟩:=h;obtain rfl:=he.zero (by rw[h0])
 rcases hcase with⟨h1,_⟩|⟨_,D2,sv',s,L',hto,_,_,rfl,hy,hmv⟩
 ·exact absurd (by rw[h0]) h1
 refine⟨_,_,_,_,rfl,?_⟩;have hm:mkEnd Z0a 8 x os=(s,some (8,L')):=Zhe hto;have hp:Z61 Z0a 8 x os=⟨x.T,outY (newE Z0a os x.T) s x.O (Z18 Z0a),L'⟩:=by
  unfold Z61;rw[if_pos (by rw[h0]),hm]
  rfl
 have hok:=hx.make (many:=8) (os:=os) Z23;rw[hp]at hok ⊢;exact⟨D2,⟨⟨_,_,hy⟩,hok⟩,hmv⟩
theorem Zat{w0 w:World}{P:Nat→Addr}{D:Nat→Prop}{n:Nat}{x:PS}(h:Z2o w0 w D n x){vo:Value}{outs:List B}(hvo:Rd S w vo outs)(hno:outs.length≤1000)(hm:∀s∈Z4u Z0a outs,Z35 Z0a s=true)(hV:PV w0 P [1,2,3,4,5,6,7,8,9,10,11]) :
  Calls Tryz.prog 39 #[PTR (n+6),vo] w (fun e w'=>∃a b c d:Nat,e=.returned (.tuple #[.agg #[IN a,IN b,IN c,IN d],.nilIface])∧Z6d w0 w D n (Z61 Z0a 8 x (Z4u Z0a outs)) w'):=by
 obtain⟨sv,lv,hy⟩:=h.at_;refine(Zf5 P vo outs _ hy hvo hno rfl Z23 h.ok.ta.ft (h.ok.oi.ftree (Z0k Z23).1) hV).mono fun e w' hr=>?_
 exact Z2o.made h.ok (Z5f Z23 hm) hr
theorem Zic{w0 w:World}(P:Nat→Addr){D:Nat→Prop}{n:Nat}{x:PS}(v:Nat)(h:Z2o w0 w D n x)(hv:v≤9223372036854775807)(hV:PV w0 P [1,2,3,4,5,6,7,8,9,10,11]) :
  Calls Tryz.prog 143 #[PTR (n+6),I v] w (fun e w'=>∃ev,e=.returned ev∧Z25 w' P ((oneP x v).2,-1) ev∧Z6d w0 w D n (oneP x v).1 w'):=by
 have HH:=Q0 h;have HV:=Q0 hV;obtain⟨sv,lv,hy⟩:=h.at_;have HY:=Q0 hy;have HD2:Hid (D (n+2)):=Q0 (hy.own _ (by omega) (by omega))
 have hvz:(v:Int)≤9223372036854775807:=by omega
 have hv0:(0:Int)≤(v:Int):=by omega
 have hfile:=file_is (v / 8);have HFILE:=Q0 hfile;obtain⟨R,hR⟩:∃R,R=oneP x v:=⟨_,rfl⟩;rw[←hR];have HR:=Q0 hR;have hcases:v % 8=4∨v % 8=5∨v % 8=6∨v % 8=7∨v % 8<4:=by omega
 clear h hV hy hfile hR;rcases hcases with hc|hc|hc|hc|hc
 ·have b4:((v:Int) % 8==4)=true:=beq_iff_eq.2 (by omega)
  have HONE:Hid (R=(⟨delT x.T (Z1i (v / 8)),x.O,x.L⟩,if (x.T.lookup (Z1i (v / 8))).isSome then 0 else 6)):=Q0 (by
   rw[HR.out];unfold oneP Z4i;rw[if_neg (by omega),if_neg (by omega),if_neg (by omega)]
   simp only
   rw[if_pos hc])
  have HREM:Hid (Calls Tryz.prog 37 #[PTR (n+3),S (Z1i (v / 8))] w (fun e w'=>∃ev,e=.returned ev∧Z25 w' P (R.2,-1) ev∧Z6d w0 w D n R.1 w')):=Q0 (by
   refine(HY.out.remove P ((HV.out.ext HY.out.ext).errs.sub (by decide)) (Z1i (v / 8))).mono ?_
   rintro e w' ⟨rfl,h1,h2⟩;rw[HONE.out];exact⟨_,rfl,Z25.errC _ _ _,D,⟨⟨_,_,h1⟩,HH.out.ok.ta.del _,HH.out.ok.oi⟩,h2.mono (fun i _ e=>by rw[e];exact HD2.out),fun _ h=>.inl h⟩)
  clear hc;go_enter Tryz.func143,Tryz.ntmps143;go_wp2_with fail;rw[HFILE.out];refine(Z5t HY.out).mono ?_;rintro e w2 ⟨rfl,rfl⟩;go_wp2_with fail;refine HREM.out.mono ?_;rintro e w2 ⟨ev,rfl,he,hp⟩;have HE:=Q0 he;have HP:=Q0 hp;clear he hp;go_wp2_with fail;go_ret;exact⟨_,rfl,HE.out,HP.out⟩
 ·have b4:((v:Int) % 8==4)=false:=Q3 (by omega)
  have b5:((v:Int) % 8==5)=true:=beq_iff_eq.2 (by omega)
  have ha:Z4i v=some []:=by unfold Z4i;rw[if_pos hc]
  have HMK:=Q0 (Zat HH.out (Rd.nil S w) (by decide) (Z4f ha) HV.out)
  have HONE:Hid (R=(Z61 Z0a 8 x (Z4u Z0a []),0)):=Q0 (by rw[HR.out];unfold oneP;rw[ha];simp only;rw[Z2w ha])
  clear hc ha;go_enter Tryz.func143,Tryz.ntmps143;go_wp2_with fail;refine HMK.out.mono ?_;rintro e w2 ⟨a,b,c,d,rfl,hp⟩;have HP:=Q0 (hp.grow (Only.alloc _ w2 (.cells #[IN a,IN b,IN c,IN d] 70 (0,0))));clear hp;go_wp2_with fail;go_ret;rw[HONE.out];exact⟨_,rfl,Z25.nil _ _ _,HP.out⟩
 ·have b4:((v:Int) % 8==4)=false:=Q3 (by omega)
  have b5:((v:Int) % 8==5)=false:=Q3 (by omega)
  have b6:((v:Int) % 8==6)=true:=beq_iff_eq.2 (by omega)
  have ha:Z4i v=some [Z6t (v / 8 % 6)]:=by unfold Z4i;rw[if_neg (by omega),if_pos hc]
  have hi6:v / 8 % 6<6:=Nat.mod_lt _ (by decide)
  have hii:(v:Int) / 8 % 6=((v / 8 % 6:Nat):Int):=by omega
  obtain⟨i,hi⟩:∃i,i=v / 8 % 6:=⟨_,rfl⟩;rw[←hi]at ha hi6 hii;have hiz:(i:Int)<6:=by omega
  have hi0:(0:Int)≤(i:Int):=by omega
  have HAM:=Q0 (Z4f ha);have HONE:Hid (R=(Z61 Z0a 8 x (Z4u Z0a [Z6t i]),0)):=Q0 (by rw[HR.out];unfold oneP;rw[ha];simp only;rw[Z2w ha])
  have HI6:=Q0 hi6;clear hc ha hi hi6;go_enter Tryz.func143,Tryz.ntmps143;go_wp2_with fail;refine(Z5d w).mono ?_;rintro e w1 ⟨vs,rfl,hr,ho⟩;obtain⟨av,cs,rfl,_,_,hcell0⟩:=hr;obtain⟨b,off,rfl,hcell⟩:=hcell0 (by decide)
  obtain⟨r,hri⟩:∃r,Z0a[i]?=some r:=⟨_,Q1 HI6.out⟩;obtain⟨_,_,c0,_⟩:=hcell i r hri;have hro:Z6t i=r.out:=by unfold Z6t;rw[hri];rfl
  rw[←hro]at c0;have HMK:=Q0 (Zat ((HH.out.grow ho).grow (Only.alloc _ w1 (.cells #[S (Z6t i)] 9 (0,0)))) (lit_rd w1 (Z6t i)) (by simp) HAM.out HV.out)
  have HXB:=Q0 (ho.thenAlloc (.cells #[S (Z6t i)] 9 (0,0)));clear hcell hcell0 hri hro ho;go_wp2_with fail;refine HMK.out.mono ?_;rintro e w2 ⟨a,b,c,d,rfl,hp⟩;have HP:=Q0 ((hp.from HXB.out).grow (Only.alloc _ w2 (.cells #[IN a,IN b,IN c,IN d] 70 (0,0))))
  clear hp c0;go_wp2_with fail;go_ret;rw[HONE.out];exact⟨_,rfl,Z25.nil _ _ _,HP.out⟩
 ·have b4:((v:Int) % 8==4)=false:=Q3 (by omega)
  have b5:((v:Int) % 8==5)=false:=Q3 (by omega)
  have b6:((v:Int) % 8==6)=false:=Q3 (by omega)
  have b7:((v:Int) % 8==7)=true:=beq_iff_eq.2 (by omega)
  have ha:Z4i v=some [[104,100],[99,110,116]]:=by unfold Z4i;rw[if_neg (by omega),if_neg (by omega),if_pos hc]
  have HMK:=Q0 (Zat (HH.out.grow (Only.alloc _ w (.cells #[S [104,100],S [99,110,116]] 9 (0,0)))) (Z9e (ss:=[[104,100],[99,110,116]]) (MapKept.heap_alloc w (.cells #[S [104,100],S [99,110,116]] 9 (0,0))).1 (by simp) (by decide)) (by decide) (Z4f ha) HV.out)
  have HONE:Hid (R=(Z61 Z0a 8 x (Z4u Z0a [[104,100],[99,110,116]]),0)):=Q0 (by rw[HR.out];unfold oneP;rw[ha];simp only;rw[Z2w ha])
  clear hc ha;go_enter Tryz.func143,Tryz.ntmps143;go_wp2_with fail;refine HMK.out.mono ?_;rintro e w2 ⟨a,b,c,d,rfl,hp⟩;have HP:=Q0 ((hp.from (Only.alloc _ w (.cells #[S [104,100],S [99,110,116]] 9 (0,0)))).grow (Only.alloc _ w2 (.cells #[IN a,IN b,IN c,IN d] 70 (0,0))))
  clear hp;go_wp2_with fail;go_ret;rw[HONE.out];exact⟨_,rfl,Z25.nil _ _ _,HP.out⟩
 ·have b4:((v:Int) % 8==4)=false:=Q3 (by omega)
  have b5:((v:Int) % 8==5)=false:=Q3 (by omega)
  have b6:((v:Int) % 8==6)=false:=Q3 (by omega)
  have b7:((v:Int) % 8==7)=false:=Q3 (by omega)
  have HONE:Hid (R=(⟨putT x.T (Z1i (v / 8)) (Z1o (v / 8 / 3 % 32)),x.O,x.L⟩,Z06 x.T (Z1i (v / 8)) (Z1o (v / 8 / 3 % 32)))):=Q0 (by
   rw[HR.out];unfold oneP Z4i;rw[if_neg (by omega),if_neg (by omega),if_neg (by omega)]
   simp only
   rw[if_neg (by omega)])
  have hlet:=Zit w (v / 8 / 3 % 32) (Nat.mod_lt _ (by decide))
  rw[show ((v / 8 / 3 % 32:Nat):Int)=(v:Int) / 8 / 3 % 32 by omega]at hlet
  have HLET:=Q0 hlet;have HPUT:Hid (∀wq,Ext w wq→Calls Tryz.prog 38 #[PTR (n+3),S (Z1i (v / 8)),S (Z1o (v / 8 / 3 % 32))] wq (fun e w'=>∃ev,e=.returned ev∧Z25 w' P (R.2,-1) ev∧Z6d w0 w D n R.1 w')):=Q0 (fun wq hq=>by
   have hv:=HV.out.ext (HY.out.ext.then hq);refine((HY.out.grow hq).put P HH.out.ok.ta.ft (hv.errs.sub (by decide)) hv.max (Z1i (v / 8)) (Z1o (v / 8 / 3 % 32)) (by simp[Z1i])).mono ?_
   rintro e w' ⟨rfl,h1,h2⟩;rw[HONE.out];exact⟨_,rfl,Z25.errC _ _ _,D,⟨⟨_,_,h1⟩,HH.out.ok.ta.put _ _ (by simp[Z1i]),HH.out.ok.oi⟩,Only.after hq (h2.mono (fun i _ e=>by rw[e];exact HD2.out)),fun _ h=>.inl h⟩)
  generalize Z1o (v / 8 / 3 % 32)=lt at HLET HPUT;clear hc hlet HONE;go_enter Tryz.func143,Tryz.ntmps143;go_wp2_with fail;rw[HFILE.out];refine(Z5t HY.out).mono ?_;rintro e w2 ⟨rfl,rfl⟩;go_wp2_with fail;refine HLET.out.mono ?_;rintro e w2 ⟨rfl,ho⟩;have HX:=Q0 ho;clear ho;go_wp2_with fail;refine(HPUT.out _ HX.out).mono ?_;rintro e w3 ⟨ev,rfl,he,hp⟩;have HE:=Q0 he;have HP:=Q0 hp;clear he hp;go_wp2_with fail;go_ret;exact⟨_,rfl,HE.out,HP.out⟩
abbrev RowZ(base:Nat)(w:World)(v:Value)(l:List Int):Prop:=w.ownsRow base 3 1 v l.length (l.map I)
theorem RowZ.rd{base:Nat}{w:World}{v:Value}{l:List Int}(h:RowZ base w v l):Rd I w v l:=by
 exact Rd.of_row h
theorem wpZ{P:Program}(hP:P=Tryz.prog){ops:Array Oper}{rest:List Oper}{o:Oper}{a:Act}{Q:Exit→Act→World→Prop}(s x:Operand)(base:Nat)(v:Value)(l:List Int)(k:Int)(W:World)(hgd:o.guard=none)
  (ho:o.op=.call { callee:=.builtin .append,args:=#[s,x],argTypes:=#[46,46] }) (hs:a.eval s=v) (hx:a.eval x=.slice (some ⟨W.heap.size,0,none⟩) 1 1)
  (hrow:RowZ base W v l) (hl:l.length≤1000000) (hbase:base≤W.heap.size)
  (hK:∀g cap w',Hid (RowZ base w' (.slice (some ⟨g,0,none⟩) (l.length+1) cap) (l++[k]))→Hid (W.grownBy w' v.ownBlock)→Hid (∀i,Value.ownBlock (.slice (some ⟨g,0,none⟩) (l.length+1) cap)=some i→v.ownBlock=some i∨W.heap.size≤i)→
   wpList P ops Q rest (a.put o.dst (.slice (some ⟨g,0,none⟩) (l.length+1) cap)) w') :
  wpList P ops Q (o :: rest) a (W.alloc (.cells #[I k] 3 (0,0))):=by
 subst hP;have hf:∀q:List Int,q.flatMap (fun k=>[I k])=q.map I:=fun q=>by induction q with
  | nil=>rfl
  | cons x q ih=>rw[List.flatMap_cons,List.map_cons,ih];rfl
 refine Z14 (fun k:Int=>[I k]) 46 3 1 8 _ Z8z Tryz.underlying46 rfl (by decide) (fun _=>rfl) (fun _ u hu=>by cases List.mem_singleton.1 hu;rfl) (by decide) s x base v l k W _ rfl hgd ho hs hx (by rw[hf];exact hrow) hl hbase ?_
 intro g cap w' h1 h2 h3
 rw[hf]at h1;refine hK g cap w' (Q0 ?_) (Q0 h2) (Q0 h3);show World.ownsRow _ _ _ _ _ (l++[k]).length _
 rw[List.length_append];exact h1
def RetPlay(w0 w:World)(D:Nat→Prop)(n:Nat)(x:PS)(zs:List Int)(e:Ending)(w':World):Prop:=
 ∃vo D2,e=.returned vo∧RowZ w.heap.size w' vo (Z2q x zs).2∧Z2o w0 w' D2 n (Z2q x zs).1∧Moved D w w' D2∧∀i,vo.ownBlock=some i→¬D2 i
structure Z8o(w0 w:World)(D:Nat→Prop)(n:Nat)(x:PS)(cs:List Int)(bs:Nat)(qv:Value)(wr:World):Prop where
 play:∃D2,Z2o w0 wr D2 n x∧Moved D w wr D2∧∀i,qv.ownBlock=some i→¬D2 i
 row:RowZ bs wr qv cs
section
variable {w0 w wr w':World}{D:Nat→Prop}{n bs:Nat}{x x':PS}{cs:List Int}{qv v:Value}{zs:List Int}
theorem Z8o.only(h:Z8o w0 w D n x cs bs qv wr):Only D w wr:=by
 obtain⟨D2,_,h2,_⟩:=h.play;exact h2.1
theorem Z8o.grow(h:Z8o w0 w D n x cs bs qv wr)(ho:Ext wr w'):Z8o w0 w D n x cs bs qv w':=by
 obtain⟨D2,h1,h2,h3⟩:=h.play;exact⟨⟨D2,h1.grow ho,⟨h2.1.ext ho,h2.2⟩,h3⟩,ho.row h.row (fun _ _ h=>h)⟩
theorem Z8o.push{c:Int}{qv':Value}(h:Z8o w0 w D n x cs bs qv wr)(hb:w.heap.size≤bs)(hw:w0.heap.size≤w.heap.size)(hr:RowZ bs w' qv' (cs++[c]))(hg:wr.grownBy w' qv.ownBlock)(hn:∀i,qv'.ownBlock=some i→qv.ownBlock=some i∨wr.heap.size≤i):Z8o w0 w D n x (cs++[c]) bs qv' w':=by
 obtain⟨D2,h1,h2,h3⟩:=h.play;have ho:Only (fun i=>qv.ownBlock=some i) wr w':=Only.of_grown hg
 refine⟨⟨D2,h1.other ho (fun i e=>⟨by have:=(h.row.lt i e).1;omega,h3 i e⟩),⟨h2.1.trans ho (fun _ _ h=>h) (fun i hi e=>by have:=(h.row.lt i e).1;omega),h2.2⟩,fun i e=>?_⟩,hr⟩
 rcases hn i e with k|k
 ·exact h3 i k
 ·intro e2
  have:=(h1.lt i e2).2
  omega
theorem Z8o.one(P:Nat→Addr)(h:Z8o w0 w D n x cs bs qv wr)(z:Nat)(hz:z≤9223372036854775807)(hV:PV w0 P [1,2,3,4,5,6,7,8,9,10,11]) :
  Calls Tryz.prog 143 #[PTR (n+6),I z] wr (fun e w'=>∃ev,e=.returned ev∧Z25 w' P ((oneP x z).2,-1) ev∧Z8o w0 w D n (oneP x z).1 cs bs qv w'):=by
 obtain⟨D2,h1,h2,h3⟩:=h.play;refine(Zic P z h1 hz hV).mono ?_;rintro e w' ⟨ev,rfl,he,D3,k1,k2⟩;refine⟨ev,rfl,he,⟨D3,k1,h2.then k2,fun i e e3=>?_⟩,k2.1.row h.row (fun i e=>h3 i e)⟩
 rcases k2.2 i e3 with k|k
 ·exact h3 i e k
 ·have:=(h.row.lt i e).2
  omega
theorem Zau(P:Nat→Addr)(h:Z2o w0 w D n x)(hv:Holds (fun i=>¬D i) w (fun w'=>Rd I w' v zs))(hl:zs.length≤3000)(hz:∀z∈zs,z≤9223372036854775807)(hV:PV w0 P [1,2,3,4,5,6,7,8,9,10,11])(hS:Sents w0 P) :
  Calls Tryz.prog 78 #[PTR (n+6),v] w (RetPlay w0 w D n x zs):=by
 have HV:=Q0 hV;have HS:=Q0 hS;have HZ:=Q0 hz;have HRD:=Q0 (fun w' (ho:Only D w w')=>hv w' D ho (fun i e _ k=>k e))
 have HX0:=Q0 h.ext.size;obtain⟨a,cap,hve,hcap,hm,_⟩:=hv.now;subst hve;have hplz:(zs.length:Int)≤3000:=by omega
 have hmin:min (zs.length:Int) 3000=(zs.length:Int):=by omega
 have hminn:min zs.length 3000=zs.length:=by omega
 have hcz:(zs.length:Int)≤(cap:Int):=by omega
 obtain⟨bs,hbs⟩:∃bs,bs=w.heap.size:=⟨_,rfl⟩;have HBS:Hid (w.heap.size≤bs∧bs≤w.heap.size):=Q0 ⟨by omega,by omega⟩
 have HR0:Hid (Z8o w0 w D n x [] bs (.slice none 0 0) w):=Q0 ⟨⟨D,h,Moved.ext (Only.refl _ _),fun i e=>by cases e⟩,World.ownsRow_nil _ _ _ _⟩
 clear h hv hz hV hS hbs hm;go_enter Tryz.func78,Tryz.ntmps78;go_wp2_with fail;go_loopw [5,7,8,15] (fun q _ _ i wr=>∃(j:Nat)(qv:Value),qv=q∧j≤zs.length∧i=.int .i64 j∧Hid (Z8o w0 w D n (Z2q x (zs.take j)).1 (Z2q x (zs.take j)).2 bs qv wr)) (fun _ _ _ i _=>zs.length-(intOf i).toNat)
 case atStart=>exact⟨0,_,rfl,Nat.zero_le _,rfl,HR0⟩
 case round=>
  clear HR0;obtain⟨j,qv,rfl,hj,rfl,HR⟩:=hrel;by_cases hlt:j<zs.length
  case pos=>
   have hltz:(j:Int)<(zs.length:Int):=by omega
   have hj0:(0:Int)≤(j:Int):=by omega
   have hj1:¬(j:Int)<0:=by omega
   have hj2:¬(zs.length:Int)≤(j:Int):=by omega
   obtain⟨_,_,ee,_,_,hc0⟩:=HRD.out _ HR.out.only;cases ee;obtain⟨b,off,rfl,hcell⟩:=hc0 (by intro h;rw[h]at hlt;simp at hlt)
   obtain⟨z,hzj⟩:∃y,zs[j]?=some y:=⟨_,Q1 hlt⟩;have d0:=hcell j z hzj;have HST:=Q0 (Zcn (x:=x) hzj);have HZM:Hid (z≤9223372036854775807):=Q0 (HZ.out z (Q4 hzj));have HLC:Hid ((Z2q x (zs.take j)).2.length≤1000000):=Q0 (by rw[Zfy,List.length_take];omega)
   have HJ:=Q0 hlt;clear hcell hc0 hzj hj hlt;generalize Z2q x (zs.take j)=XX at HR HST HLC;obtain⟨y,cs⟩:=XX;by_cases hneg:z<0
   case pos=>
    have HN:Hid (Z2q x (zs.take (j+1))=(y,cs++[-1])):=Q0 (by rw[HST.out];unfold numP;rw[if_pos hneg])
    have hng:¬(0:Int)≤z:=by omega
    clear hneg HST;go_wp2_with (at_builtin;refine wpZ rfl (.tmp 28) (.tmp 30) bs qv cs (-1) wr rfl rfl rfl rfl HR.out.row HLC.out (Nat.le_trans HBS.out.2 HR.out.only.size) ?_;intro g5 cap5 w5 HR5 HG5 HD5);go_roundw
    case rel=>exact⟨j+1,_,rfl,HJ.out,by go_num,by rw[HN.out];exact Q0 (HR.out.push HBS.out.1 HX0.out HR5.out HG5.out HD5.out)⟩
    case measure=>have:=HJ.out;simp[intOf];omega
   case neg=>
    obtain⟨m,rfl⟩:∃m:Nat,z=(m:Int):=⟨z.toNat,by omega⟩
    have HN:Hid (Z2q x (zs.take (j+1))=((oneP y m).1,cs++[((oneP y m).2:Int)])):=Q0 (by rw[HST.out];unfold numP;rw[if_neg hneg,Int.toNat_natCast])
    have hng:(0:Int)≤(m:Int):=by omega
    have HON:=Q0 (HR.out.one P m (by have:=HZM.out;omega) HV.out)
    have HC12:=Q0 (code_le (x:=y) (v:=m));clear hneg HST;generalize oneP y m=R at HN HON HC12;obtain⟨y2,c⟩:=R;have hc12:c≤12:=HC12.out;have HON:Hid (Calls Tryz.prog 143 #[PTR (n+6),I m] wr (fun e w'=>∃ev,e=.returned ev∧Z25 w' P (c,-1) ev∧Z8o w0 w D n y2 cs bs qv w')):=HON
    go_wp2_with fail;refine HON.out.mono ?_
    rintro e w3 ⟨ev,rfl,he,hr3⟩;have HCO:=Q0 (code_at w3 P (HS.out.ext (by obtain⟨D2,h1,_⟩:=hr3.play;exact h1.ext)) ev (c,-1) he hc12 (fun _=>rfl) w3 (Only.refl _ _))
    have HR3:=Q0 hr3;have HCO:Hid (Calls Tryz.prog 96 #[ev] w3 (Zho w3 (c:Int) (-1))):=HCO;clear he hr3 d0;go_wp2_with fail;refine HCO.out.mono ?_;rintro e w4 ⟨rfl,ho4⟩;have HR4:=Q0 (HR3.out.grow ho4);clear ho4;go_wp2_with (at_builtin;refine wpZ rfl (.tmp 28) (.tmp 30) bs qv cs c w4 rfl rfl rfl rfl HR4.out.row HLC.out (Nat.le_trans HBS.out.2 HR4.out.only.size) ?_;intro g5 cap5 w5 HR5 HG5 HD5);go_roundw
    case rel=>exact⟨j+1,_,rfl,HJ.out,by go_num,by rw[HN.out];exact Q0 (HR4.out.push HBS.out.1 HX0.out HR5.out HG5.out HD5.out)⟩
    case measure=>have:=HJ.out;simp[intOf];omega
  case neg=>
   have hltz:¬(j:Int)<(zs.length:Int):=by omega
   rw[List.take_of_length_le (by omega)]at HR
   go_wp2_with fail;go_ret
   obtain⟨D2,h1,h2,h3⟩:=HR.out.play;exact⟨_,D2,rfl,World.ownsRow.mono HR.out.row HBS.out.1,h1,h2,h3⟩
end
theorem Holds.rdI{w:World}{D:Nat→Prop}{v:Value}{zs:List Int}(h:Rd I w v zs)(hb:∀i,v.ownBlock=some i→¬D i):Holds (fun i=>¬D i) w (fun w'=>Rd I w' v zs):=fun w' q ho hq=>by
 obtain⟨a,cap,rfl,h1,h2,h3⟩:=h;refine⟨a,cap,rfl,h1,h2,fun hne=>?_⟩
 obtain⟨b,off,rfl,h4⟩:=h3 hne;refine⟨b,off,rfl,fun i x hx=>ho.cellOf (h4 i x hx) (fun e=>?_)⟩
 exact hq b e (Z3d (h4 i x hx)) (hb b rfl)
def sumP(x:PS):B:=Z48 x.O++[10]++Lib.join (Z0m (Z26 Z0a x.T x.O)) [32]
theorem Z5b(x:PS):(Z26 Z0a x.T x.O).length≤6∧∀s∈Z26 Z0a x.T x.O,s.length≤100:=by
 refine⟨?_,fun s hs=>?_⟩
 ·unfold Z26
  refine Nat.le_trans (List.length_filter_le _ _) ?_;rw[List.length_map,play_len];exact Nat.le_refl _
 ·obtain⟨hs,_⟩:=List.mem_filter.1 hs
  obtain⟨r,hr,rfl⟩:=List.mem_map.1 hs;exact(Z29 (Z0k Z23).1 r hr).out
theorem Zcy(x:PS):(Lib.join (Z0m (Z26 Z0a x.T x.O)) [32]).length≤13000:=by
 obtain⟨h1,h2⟩:=Z5b x;have h3:=Ziy [32] (Z0m (Z26 Z0a x.T x.O));have h4:(Z0m (Z26 Z0a x.T x.O)).length≤6:=by rw[Z5v];exact h1
 have h5:=Zae (l:=Z0m (Z26 Z0a x.T x.O)) fun s hs=>by have:=h2 s ((List.mergeSort_perm _ _).mem_iff.1 hs);omega
 have h6:(Z0m (Z26 Z0a x.T x.O)).length*2000≤6*2000:=Nat.mul_le_mul_right _ h4;simp only[List.length_cons,List.length_nil]at h3;omega
theorem Zib{w0 w:World}(P:Nat→Addr){D:Nat→Prop}{n:Nat}{x:PS}(h:Z2o w0 w D n x)(hV:PV w0 P [1,2,3,4,5,6,7,8,9,10,11]):Calls Tryz.prog 79 #[PTR (n+6)] w (RetE (S (sumP x)) w):=by
 obtain⟨sv,lv,hy⟩:=h.at_;have HY:=Q0 hy;have HV:=Q0 hV;have HOK:=Q0 h.ok;have hfo:=h.ok.oi.ftree (Z0k Z23).1;have htx:=fun W (hW:Ext w W)=>Zjn W (n+5) (n+4) x.O (hy.grow hW).out hfo.fits.rising hfo.lens hfo.fits.bytes hfo.fits.few (hV.ext (hy.ext.then hW)).pow
 have hst:=fun W (hW:Ext w W)=>Zdd P (hy.grow hW) Z23 h.ok.ta.ft (hV.sub (by decide))
 have hj:=Zcy x;have htl:=Z2z hfo.lens hfo.fits.bytes x.O.length;rw[List.take_length]at htl;have hfew:=hfo.fits.few;obtain⟨SM,hSM⟩:∃SM,SM=sumP x:=⟨_,rfl⟩;rw[←hSM];unfold sumP at hSM;have htl2:(Z48 x.O).length≤3100*60:=Nat.le_trans htl (Nat.mul_le_mul_left _ hfew);have hs6:(Z0m (Z26 Z0a x.T x.O)).length≤6:=by rw[Z5v];exact(Z5b x).1
 generalize Z0m (Z26 Z0a x.T x.O)=st at hst hj hSM hs6;generalize Z48 x.O=tx at htx hSM htl2;have HJN:=Q0 (fun W v (hr:Rd S W v st)=>Zgo W v st [32] hr (by omega) (by omega))
 generalize Lib.join st [32]=jn at HJN hj hSM;have HTX:=Q0 htx;have HST:=Q0 hst;have HSM:=Q0 hSM;have hb1:=Z1e tx [10];have hb2:=Z1e (tx++[10]) jn;have hl1:¬9223372036854775807<tx.length+1:=by omega
 have hl2:¬9223372036854775807<tx.length+1+jn.length:=by omega
 clear hy hV h hfo htx hst hj htl hfew hSM htl2 hs6;go_enter Tryz.func79,Tryz.ntmps79;go_wp2_with fail;refine(Zhp HY.out).mono ?_;rintro e w1 ⟨rfl,rfl⟩;go_wp2_with fail;refine(HTX.out _ (Only.refl _ _)).mono ?_;rintro e w1 ⟨rfl,ho1⟩;have HX1:=Q0 ho1;clear ho1;go_wp2_with fail;refine(HST.out _ HX1.out).mono ?_;rintro e w2 ⟨v2,rfl,hr2,ho2⟩;have HX2:=Q0 (HX1.out.then ho2);have HJ:=Q0 (HJN.out w2 v2 hr2.rd);obtain⟨a2,c2,rfl,_,_,_⟩:=hr2.rd;clear hr2 ho2;go_wp2_with fail;refine HJ.out.mono ?_;rintro e w3 ⟨rfl,ho3⟩;have HX3:=Q0 (HX2.out.then ho3);clear ho3;go_wp2_with fail;go_ret;exact⟨by rw[HSM.out];first|rfl|simp,HX3.out⟩
end Go.Proofs.YtnmhaipjfpongacGreatDoor
