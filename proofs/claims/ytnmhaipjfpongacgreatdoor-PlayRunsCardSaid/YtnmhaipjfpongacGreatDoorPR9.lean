/- A part of this claim's proof;each theorem bears its own conditions. -/
import Derived.Test.YtnmhaipjfpongacGreatDoorPR8
set_option maxRecDepth 100000
set_option maxHeartbeats 4000000
namespace Go.Proofs.YtnmhaipjfpongacGreatDoor
open Go.ChangeShapes Go.WideShapes Go.ChangeAt Go.RowKit
def Ze5(q:B×B):B:=q.1++32 :: Lib.decDigits q.2.length++10 :: q.2++[10]
def Z48(L:FL):B:=L.flatMap Ze5
theorem Z4t{L:FL}{j:Nat}{q:B×B}(h:L[j]?=some q):Z48 (L.take (j+1))=Z48 (L.take j)++Ze5 q:=by
 unfold Z48;rw[List.take_add_one,h];simp
theorem Zkb{q:B×B}(h1:q.1.length≤1000)(h2:q.2.length≤2000):(Ze5 q).length≤3100:=by
 have:=Z5r q.2.length (by omega)
 unfold Ze5;simp;omega
theorem Z2z{L:FL}(h1:∀q∈L,q.1.length≤1000)(h2:∀q∈L,q.2.length≤2000):∀j,(Z48 (L.take j)).length≤3100*j
 | 0=>by simp[Z48]
 | j+1=>by
  have ih:=Z2z h1 h2 j;cases hx:L[j]? with
  | none=>
   have:L.take (j+1)=L.take j:=by rw[List.take_add_one,hx];simp
   rw[this];omega
  | some q=>
   have hm:=Q4 hx;have hl:=Zkb (h1 q hm) (h2 q hm);rw[Z4t hx,List.length_append];omega
theorem line_ba(p d x:B)(hd:d=Lib.decDigits x.length):((⟨p.toArray⟩:ByteArray)++⟨#[32]⟩++⟨d.toArray⟩++⟨#[10]⟩++⟨x.toArray⟩++⟨#[10]⟩)=⟨(Ze5 (p,x)).toArray⟩:=by
 rw[show (⟨#[32]⟩:ByteArray)=⟨([32]:B).toArray⟩ from rfl,show (⟨#[10]⟩:ByteArray)=⟨([10]:B).toArray⟩ from rfl]
 simp only[Z1e];simp[Ze5,hd]
abbrev IsBF(n0 b:Nat)(l:B)(w:World):Prop:=Lib.IsBuilderF 169 5 n0 b (Lib.byteCells l) w
theorem Z77{n0 b:Nat}{p:Value}{bs:List Value}{w w':World}(h:Lib.BuilderAtF 169 5 n0 b p bs w)(ho:Ext w w'):Lib.BuilderAtF 169 5 n0 b p bs w':=by
 obtain⟨h1,v,h2,h3,h4⟩:=h;refine⟨h1,v,ho.heapOf h2 (fun h=>h),?_,h4⟩
 obtain⟨h5,h6⟩:=h3;refine⟨h5,?_⟩;rcases h6 with h6|⟨g,cap,cur,fz,h7,h8,h9,h10⟩
 ·exact .inl h6
 ·exact .inr ⟨g,cap,cur,fz,h7,h8,ho.heapOf h9 (fun h=>h),h10⟩
theorem IsBF.ext{n0 b:Nat}{l:B}{w w':World}(h:IsBF n0 b l w)(ho:Ext w w'):IsBF n0 b l w':=by
 rcases h with h|h
 ·exact .inl (Z77 h ho)
 ·exact .inr (Z77 h ho)
theorem IsBF.fresh(w:World):IsBF w.heap.size w.heap.size [] (w.alloc (.cells #[.pointer none,.slice none 0 0] 169 (0,0))):=
 .inl (Lib.BuilderAtF.of ⟨Nat.le_refl _,.slice none 0 0,(MapKept.heap_alloc w _).1,World.ownsRow_nil _ _ _ _,by intro h;cases h⟩)
def Z32(w w':World):Prop:=∀(k:Nat)(cs:Array Value)(fz:Nat×Nat),w.heap[k]?=some (.cells cs 9 fz)→w'.heap[k]?=some (.cells cs 9 fz)
theorem Z32.ext{a w w':World}(h:Z32 a w)(ho:Ext w w'):Z32 a w':=fun k cs fz hk=>ho.heapOf (h k cs fz hk) (fun h=>h)
theorem Z32.others{a w w':World}{n0 b:Nat}{l:B}(h:Z32 a w)(hb:IsBF n0 b l w)(ho:Lib.OthersKept 5 (some b) w w'):Z32 a w':=fun k cs fz hk=>by
 have hk':=h k cs fz hk
 refine ho k _ hk' ?_ ?_
 ·intro e
  have e:k=b:=Option.some.inj e
  rw[e]at hk';rcases hb with⟨_,v,h2,_⟩|⟨_,v,h2,_⟩
  all_goals
   rw[h2]at hk';cases hk'
 ·intro c fz' e
  cases e
theorem Zcb(n0 b:Nat)(l s:B)(w:World)(h:IsBF n0 b l w)(hlen:l.length+s.length≤140737488355328)(hBw:n0≤w.heap.size) :
  Calls Tryz.prog 106 #[.pointer (some ⟨b,0,none⟩),S s] w fun e w'=>e=.returned (.tuple #[I s.length,.nilIface])∧IsBF n0 b (l++s) w'∧Below n0 w w'∧Lib.OthersKept 5 (some b) w w':=by
 have hsz:(⟨s.toArray⟩:ByteArray).size=s.length:=by simp[ByteArray.size]
 refine(Any.Builder_WriteString_k { Tryz.lays156 with } Tryz.Builder_Extra_156 n0 b (Lib.byteCells l) ⟨s.toArray⟩ w h (by rw[Lib.byteCells_length,hsz];exact hlen) hBw).mono ?_
 rintro e w' ⟨rfl,h1,h2,h3⟩;refine⟨by rw[hsz],.inr ?_,h2,h3⟩
 have e1:Lib.byteCells l++Lib.strCells ⟨s.toArray⟩=Lib.byteCells (l++s):=by rw[Lib.strCells_eq];simp[Lib.byteCells]
 rw[←e1];exact h1
theorem Zjn(w:World)(b mb:Nat)(L:FL)(h:Z0u w b mb L)(hr:Rising L)(h1:∀q∈L,q.1.length≤1000)(h2:∀q∈L,q.2.length≤2000)(hn:L.length≤60)(hp:Pow w) :
  Calls Tryz.prog 31 #[.pointer (some ⟨b,0,none⟩)] w fun e w'=>e=.returned (S (Z48 L))∧Ext w w':=by
 have HPA:=Q0 (fun W (hW:Ext w W)=>Zof W b mb L (h.ext hW) hr (fun q hq=>by have:=h1 q hq;omega) (by omega))
 obtain⟨T,hT⟩:∃T,Hid (T=Z48 L):=⟨_,Q0 rfl⟩;rw[←hT.out];have H:=Q0 h;have H1:=Q0 h1;have H2:=Q0 h2;have HP:=Q0 hp;have HR:=Q0 hr;clear h hr h1 h2 hp;go_enter Tryz.func31,Tryz.ntmps31;go_wp2_with fail;refine(HPA.out _ (Only.alloc (fun _=>False) w _)).mono ?_
 rintro e w1 ⟨v,rfl,hv,ho,ht⟩;have HO1:=Q0 ((Only.alloc (fun _=>False) w (.cells #[.pointer none,.slice none 0 0] 169 (0,0))).ext ho)
 have HB1:=Q0 ((IsBF.fresh w).ext ho);obtain⟨a,cap,rfl,_,_,hc⟩:=hv;simp only[List.length_map]at *;have HC:=Q0 hc;have HT:=Q0 ht;clear ho hc ht;obtain⟨bb,hbE⟩:∃b,b=w.heap.size:=⟨_,rfl⟩;have HB1':Hid (IsBF w.heap.size bb [] w1):=by rw[hbE];exact HB1
 rw[←hbE];clear hbE HB1;go_wp2_with fail;go_loopw [9] (fun i wr=>∃j:Nat,j≤L.length∧i=.int .i64 j∧Hid (Ext w wr)∧Hid (Z32 w1 wr)∧Hid (IsBF w.heap.size bb (Z48 (L.take j)) wr)) (fun i _=>L.length-(intOf i).toNat)
 case atStart=>exact⟨0,Nat.zero_le _,rfl,HO1,Q0 (fun _ _ _ h=>h),HB1'⟩
 case round=>
  obtain⟨j,hj,rfl,HX,HX1,HB⟩:=hrel;by_cases hlt:j<L.length
  ·have hltz:(j:Int)<(L.length:Int):=by omega
   obtain⟨b0,off,rfl,hcell⟩:=HC.out (by intro h;rw[List.map_eq_nil_iff]at h;rw[h]at hlt;simp at hlt)
   obtain⟨⟨p,x⟩,hq⟩:∃y,L[j]?=some y:=⟨_,Q1 hlt⟩;have d0:wr.cell? ⟨b0,off+j,none⟩=some (S p):=by
    obtain⟨cur,hcur⟩:=HT.out b0 rfl;have h3:=hcell j p (by rw[List.getElem?_map,hq];rfl)
    rw[Z00 hcur]at h3;rw[Z00 (HX1.out _ _ _ hcur)];exact h3
   have hW:=H.out.ext HX.out;have c0:=hW.mapCell;have hlk:L.lookup p=some x:=Z83 HR.out.nodup (Q4 hq);have hlook:=KMap.look1 (P:=Tryz.prog) Z08 hW.map Tryz.underlying171 Tryz.underlying9 (Z79 wr) p;simp only[hlk]at hlook;have hxl:=H2.out _ (Q4 hq);have hpl:=H1.out _ (Q4 hq);have hxn:x.length≤2000:=hxl;have hpn:p.length≤1000:=hpl;have hit:=fun W (h:Ext w W)=>Za1 W x.length (by omega) (HP.out.ext h)
   have hdl:=Z5r x.length (by omega)
   have hst:=Z4t hq;have htl:=Z2z H1.out H2.out j;have hll:=Zkb (q:=(p,x)) hpl hxl;obtain⟨d,hd⟩:∃d,d=Lib.decDigits x.length:=⟨_,rfl⟩;have hba:=line_ba p d x hd;rw[←hd]at hdl;simp only[←hd]at hit;obtain⟨F,hF⟩:∃F,F=Z48 (L.take j):=⟨_,rfl⟩;rw[←hF]at HB hst htl;obtain⟨ln,hln⟩:∃ln,ln=Ze5 (p,x):=⟨_,rfl⟩;rw[←hln]at hst hll hba;have q1:¬9223372036854775807<p.length+1:=by omega
   have q2:¬9223372036854775807<p.length+1+d.length:=by omega
   have q3:¬9223372036854775807<p.length+1+d.length+1:=by omega
   have q4:¬9223372036854775807<p.length+1+d.length+1+x.length:=by omega
   have q5:¬9223372036854775807<p.length+1+d.length+1+x.length+1:=by omega
   have hfl:F.length+ln.length≤140737488355328:=by omega
   have hlk5:∀w5,Ext w w5→(Instr.lookup 171 (.map (some mb)) (S p) false).run Tryz.prog w5=.ok (S x) w5:=fun w5 h5=>by
    have:=KMap.look1 (P:=Tryz.prog) Z08 (H.out.ext h5).map Tryz.underlying171 Tryz.underlying9 (Z79 w5) p
    simp only[hlk]at this;exact this
   have l0d:=hlk5 wr.drew HX.out.thenDrew;have HLK5:=Q0 hlk5;have HIT:=Q0 hit;have HST:=Q0 hst;have HBA:=Q0 hba;have HFL:=Q0 hfl;clear hcell hW hlk hq hF hln hd hit hst hba hll htl hdl hxl hpl hlk5 hfl hxn hpn;go_wp2_with fail;go_region_law (go_simp;first
    | (go_at_call 107;refine(HIT.out _ (by first | exact HX.out | exact HX.out.thenDrew | exact HX.out.thenDrewN _)).mono ?_;rintro e w5 ⟨rfl,ho⟩;have HX5:Hid (Ext w w5):=Q0 (Only.ext (by first | exact HX.out | exact HX.out.thenDrew | exact HX.out.thenDrewN _) ho);have HB5:Hid (IsBF w.heap.size bb F w5):=Q0 (IsBF.ext HB.out (Only.ext (by first | exact Only.refl _ _ | exact Only.drew _ _ | exact Only.drewN _ _ _) ho));have HY5:Hid (Z32 w1 w5):=Q0 (HX1.out.ext (Only.ext (by first | exact Only.refl _ _ | exact Only.drew _ _ | exact Only.drewN _ _ _) ho));have c5:=(H.out.ext HX5.out).mapCell;have l5:=HLK5.out w5 HX5.out;clear ho)
    | (go_at_call 106;rw[HBA.out];refine(Zcb w.heap.size bb F ln _ (by first | exact HB5.out | exact HB5.out.ext (Only.drew _ _) | exact HB5.out.ext (Only.drewN _ _ _)) HFL.out (by first | exact HX5.out.size | exact HX5.out.thenDrew.size | exact(HX5.out.thenDrewN _).size)).mono ?_;rintro e w6 ⟨rfl,hb6,hbl,hok⟩;have HX6:Hid (Ext w w6):=Q0 (Z4b (by first | exact HX5.out | exact HX5.out.thenDrew | exact HX5.out.thenDrewN _) hbl);have HB6:=Q0 hb6;have HY6:Hid (Z32 w1 w6):=Q0 (HY5.out.others HB5.out hok);clear hb6 hbl hok))
   all_goals go_wp2
   all_goals
    refine⟨⟨j+1,by omega,by go_num,HX6,HY6,Q0 (by rw[HST.out];exact HB6.out)⟩,(by simp[intOf];omega)⟩
  ·have hltz:¬((j:Int)<(L.length:Int)):=by omega
   have ht:L.take j=L:=List.take_of_length_le (by omega)
   rw[ht,←hT.out]at HB;go_wp2_with fail;refine(Tryz.Builder_String_any_k w.heap.size bb T wr HB.out HX.out.size).mono ?_;rintro e w6 ⟨rfl,_,hbl,_⟩;go_wp2_with fail;go_ret;exact⟨rfl,Z4b HX.out hbl⟩
def RetE(v:Value)(w:World)(e:Ending)(w':World):Prop:=e=.returned v∧Ext w w'
abbrev Row(base:Nat)(w:World)(v:Value)(l:List B):Prop:=w.ownsRow base 9 1 v l.length (l.map S)
def Zhi(l:List B)(w:World)(e:Ending)(w':World):Prop:=∃v,e=.returned v∧Ext w w'∧Row w.heap.size w' v l
theorem Row.ext{base:Nat}{w w':World}{v:Value}{l:List B}(h:Row base w v l)(ho:Ext w w'):Row base w' v l:=ho.row h fun _ _ h=>h
theorem Row.rd{base:Nat}{w:World}{v:Value}{l:List B}(h:Row base w v l):Rd S w v l:=Rd.of_row h
theorem Row.nil(base:Nat)(w:World):Row base w (.slice none 0 0) []:=World.ownsRow_nil _ _ _ _
theorem Row.base{base:Nat}{w:World}{v:Value}{l:List B}(h:Row base w v l):∀i,v.ownBlock=some i→base≤i:=fun i hi=>(h.lt i hi).1
theorem Z55{w0 wr w':World}(I:Ext w0 wr){v:Value}(hv:∀i,v.ownBlock=some i→w0.heap.size≤i)(hg:wr.grownBy w' v.ownBlock):Ext w0 w':=
 I.thenGrown hg fun i hi=>.inr (hv i hi)
theorem Z97(b off j:Nat):(⟨b,off,none⟩:Addr).add j=⟨b,off+j,none⟩:=by cases j <;> simp[Addr.add]
theorem Z2t{P:Program}(hP:P=Tryz.prog){ops:Array Oper}{rest:List Oper}{o:Oper}{a:Act}{Q:Exit→Act→World→Prop}(s x:Operand)(w0:World)(base:Nat)(v:Value)(l:List B)(k:B)(W:World)(hgd:o.guard=none)
  (ho:o.op=.call { callee:=.builtin .append,args:=#[s,x],argTypes:=#[53,53] }) (hs:a.eval s=v) (hx:a.eval x=.slice (some ⟨W.heap.size,0,none⟩) 1 1)
  (hrow:Row base W v l) (hl:l.length≤1000000) (hbase:base≤W.heap.size) (hxt:Ext w0 W) (hb0:w0.heap.size≤base)
  (hK:∀g cap w',Hid (Row base w' (.slice (some ⟨g,0,none⟩) (l.length+1) cap) (l++[k]))→Hid (Ext w0 w')→Hid (W.grownBy w' v.ownBlock)→
   wpList P ops Q rest (a.put o.dst (.slice (some ⟨g,0,none⟩) (l.length+1) cap)) w') :
  wpList P ops Q (o :: rest) a (W.alloc (.cells #[S k] 9 (0,0))):=by
 subst hP;refine Z14 (fun s=>[S s]) 53 9 1 16 _ Ze9 Tryz.underlying53 rfl (by decide) (fun _=>rfl) (fun _ u hu=>by cases List.mem_singleton.1 hu;rfl) (by decide) s x base v l k W _ rfl hgd ho hs hx (by rw[Z8a];exact hrow) hl hbase ?_
 intro g cap w' h1 h2 h3
 rw[Z8a]at h1;refine hK g cap w' (Q0 ?_) (Q0 (Z55 hxt (fun i hi=>Nat.le_trans hb0 (hrow.base i hi)) h2)) (Q0 h2)
 show World.ownsRow _ _ _ _ _ (l++[k]).length _
 rw[List.length_append];exact h1
theorem Z22{P:Program}(hP:P=Tryz.prog){ops:Array Oper}{rest:List Oper}{o:Oper}{a:Act}{Q:Exit→Act→World→Prop}(s x:Operand)(w0:World)(base:Nat)(v vx:Value)(l k:List B)(W:World)(hgd:o.guard=none)
  (ho:o.op=.call { callee:=.builtin .append,args:=#[s,x],argTypes:=#[53,53] }) (hs:a.eval s=v) (hx:a.eval x=vx) (hrd:Rd S W vx k) (hnz:vx.ownBlock=none→vx=.slice none 0 0)
  (hrow:Row base W v l) (hl:l.length+k.length≤1000000) (hbase:base≤W.heap.size) (hxt:Ext w0 W) (hb0:w0.heap.size≤base)
  (hK:∀ao m cap w',m=(l++k).length→Hid (Row base w' (.slice ao m cap) (l++k))→Hid (Ext w0 w')→Hid (W.grownBy w' v.ownBlock)→
   wpList P ops Q rest (a.put o.dst (.slice ao m cap)) w') :
  wpList P ops Q (o :: rest) a W:=by
 subst hP;obtain⟨ao,c,rfl,hcap,hml,hc⟩:=hrd;refine Z1n (fun s=>[S s]) 53 9 1 16 _ Ze9 Tryz.underlying53 rfl (by decide) (fun _=>rfl) (fun _ u hu=>by cases List.mem_singleton.1 hu;rfl) (by decide) s x base v l k W hgd ho hs ao k.length c hx rfl ?_ (by rw[Z8a];exact hrow) hl hbase ?_
 ·cases ao with
  | none=>
   have hz:=hnz rfl;cases k with
   | nil=>cases hz;exact .inl ⟨rfl,rfl,rfl⟩
   | cons y k=>obtain⟨_,_,h,_⟩:=hc (by simp);cases h
  | some ad=>
   refine .inr ⟨ad,rfl,fun j u hu=>?_⟩
   cases k with
   | nil=>simp at hu
   | cons y k=>
    obtain⟨b,off,h,hcell⟩:=hc (by simp)
    cases h;rw[Z8a,List.getElem?_map]at hu;cases hq:(y :: k)[j]? with
    | none=>rw[hq]at hu;cases hu
    | some z=>
     rw[hq]at hu;cases hu;rw[Z97];exact hcell j z hq
 ·intro ao' m' cap w' hm' h1 h2 h3
  rw[Z8a]at h1;exact hK ao' m' cap w' hm' (Q0 h1) (Q0 (Z55 hxt (fun i hi=>Nat.le_trans hb0 (hrow.base i hi)) h2)) (Q0 h2)
theorem Row.nz{base:Nat}{w:World}{v:Value}{l:List B}(h:Row base w v l):v.ownBlock=none→v=.slice none 0 0:=by
 intro hn
 rcases h.2 with⟨h1,_⟩|⟨g,cap,cur,rfl,_⟩
 ·exact h1
 ·cases hn
def Z0t(s:B):List B:=if (cutc 10 s).getLast?=some []then(cutc 10 s).dropLast else cutc 10 s
def Z05(l:List B):B:=l.flatMap (· ++ [10])
def allB(l:List B):List B:=l.flatMap Z0t
theorem Z92{l:List B}{j:Nat}{x:B}(h:l[j]?=some x):Z05 (l.take (j+1))=Z05 (l.take j)++(x++[10]):=by
 unfold Z05;rw[List.take_add_one,h];simp
theorem Zf1{l:List B}{j:Nat}{x:B}(h:l[j]?=some x):allB (l.take (j+1))=allB (l.take j)++Z0t x:=by
 unfold allB;rw[List.take_add_one,h];simp
theorem Z45(x:B)(l:List B):Z05 (x :: l)=x++[10]++Z05 l:=by simp[Z05]
theorem Zbh(a b:List B):Z05 (a++b)=Z05 a++Z05 b:=by simp[Z05]
theorem Z2n{a b:List B}(h:a.Sublist b):(Z05 a).length≤(Z05 b).length:=by
 induction h with
 | slnil=>exact Nat.le_refl _
 | cons x _ ih=>rw[Z45];simp;omega
 | cons_cons x _ ih=>rw[Z45,Z45];simp;omega
theorem Zbg{x:B}{l:List B}(h:x∈l):x.length≤(Z05 l).length:=by
 have:=Z2n (List.singleton_sublist.2 h)
 rw[Z45]at this;simp at this;omega
theorem Zd3{a b:List B}(h:a.Perm b):(Z05 a).length=(Z05 b).length:=by
 unfold Z05;exact(h.flatMap_right _).length_eq
theorem Zd4:∀{l:List B},l≠[]→Z05 l=joinc 10 l++[10]
 | [x],_=>by simp[Z05,Z63]
 | x :: y :: l,_=>by rw[Z45,Zd4 (l:=y :: l) (by simp),Z54];simp
theorem Zpl(s:B):Z05 (cutc 10 s)=s++[10]:=by rw[Zd4 (Z7i 10 s),Zd0]
theorem Zmi(s:B):(Z0t s).Sublist (cutc 10 s):=by
 unfold Z0t;split
 ·exact List.dropLast_sublist _
 ·exact List.Sublist.refl _
theorem Z4c(s:B):(Z05 (Z0t s)).length≤s.length+1:=by
 have:=Z2n (Zmi s)
 rw[Zpl]at this;simpa using this
def Z0h(l:List B):Nat:=(l.map List.length).sum
theorem Z30(x:B)(l:List B):Z0h (x :: l)=x.length+Z0h l:=by simp[Z0h]
theorem Zad{x:B}:∀{l:List B},x∈l→x.length≤Z0h l
 | y :: l,h=>by
  rw[Z30];rcases List.mem_cons.1 h with rfl|h
  ·omega
  ·have:=Zad h;omega
theorem Z6i(l:List B):∀j,Z0h (l.take j)≤Z0h l:=by
 induction l with
 | nil=>intro j;simp[Z0h]
 | cons x l ih=>
  intro j
  cases j with
  | zero=>simp[Z0h]
  | succ j=>rw[List.take_succ_cons,Z30,Z30];have:=ih j;omega
theorem Zjp{l:List B}{j:Nat}{x:B}(h:l[j]?=some x):Z0h (l.take (j+1))=Z0h (l.take j)+x.length:=by
 unfold Z0h;rw[List.take_add_one,h];simp
theorem Z4d:∀(l:List B),(Z05 (allB l)).length≤Z0h l+l.length
 | []=>by simp[allB,Z05]
 | x :: l=>by
  have:=Z4d l
  have h2:=Z4c x;rw[show allB (x :: l)=Z0t x++allB l from rfl,Zbh,List.length_append,Z30,List.length_cons]
  omega
theorem Z2m(l:List B):l.length≤(Z05 l).length:=by
 induction l with
 | nil=>exact Nat.le_refl _
 | cons x l ih=>rw[Z45];simp;omega
inductive Kd where
 | write | join | upper | lines | sort | count | swap | head
def kinds:List (B×Kd):=[([104,101,97,100],.head),([115,119,97,112],.swap),([99,111,117,110,116],.count),([115,111,114,116],.sort),([108,105,110,101,115],.lines),([117,112,112,101,114],.upper),([106,111,105,110],.join),([119,114,105,116,101],.write)]
def Kd.least:Kd→Nat
 | .write=>0
 | _=>1
def Kd.most:Kd→Nat
 | .write=>0
 | .join | .sort | .count=>8
 | _=>1
def Zc0(s:B):Bool:=s.count 61==1&&!(s.head?==some 61)
def Kd.word:Kd→B→Bool
 | .write,_ | .join,_ | .lines,_=>true
 | .upper,s | .count,s=>s==[]
 | .sort,s=>s==[] || s==[111,110,99,101]
 | .swap,s=>Zc0 s
 | .head,s=>(numB 3 s).isSome
def upB(c:UInt8):UInt8:=if 97≤c.toNat∧c.toNat≤122 then c-97+65 else c
def Z0m(l:List B):List B:=l.mergeSort fun x y=>decide (x≤y)
def Z5u(w:B)(l:List B):List B:=if w=[111,110,99,101]then Lib.compact (Z0m l)else Z0m l
def hasB(w s:B):Bool:=Lib.contains s w
def Kd.run:Kd→B→List B→B
 | .write,w,_=>w
 | .join,w,l=>Lib.join l w
 | .upper,_,l=>(l.headD []).map upB
 | .lines,w,l=>Z05 ((Z0t (l.headD [])).filter (hasB w))
 | .sort,w,l=>Z05 (Z5u w (allB l))
 | .count,_,l=>Lib.decDigits (allB l).length++32 :: Lib.decDigits (Z0h l)++[10]
 | .swap,w,l=>Lib.replaceAll (l.headD []) (cut1 61 w).1 (cut1 61 w).2.1
 | .head,w,l=>Z05 ((Z0t (l.headD [])).take ((numB 3 w).getD 0))
def Z1b(name word:B)(n:Nat):Nat:=
 match kinds.lookup name with
 | none=>5
 | some k=>if n<k.least∨k.most<n∨k.word word=false then 3 else if 100<word.length then 10 else 0
def Zda(name word:B)(l:List B):B:=
 match kinds.lookup name with
 | none=>[]
 | some k=>k.run word l
def Z0f(name word:B)(l:List B):Nat:=if Z1b name word l.length=0 then(if 2000<(Zda name word l).length then 10 else 0)else Z1b name word l.length
def Z17(name word:B)(l:List B):B:=if Z0f name word l=0 then Zda name word l else []
end Go.Proofs.YtnmhaipjfpongacGreatDoor
namespace Go.Proofs.YtnmhaipjfpongacGreatDoor
instance (L:FL):Decidable (Rising L):=inferInstanceAs (Decidable (List.Pairwise _ L))
theorem Z68{k:Nat}(h:k<10):(UInt8.ofNat (48+k)).toNat=48+k:=by
 have:∀k:Fin 10,(UInt8.ofNat (48+k.val)).toNat=48+k.val:=by decide +kernel
 exact this ⟨k,h⟩
theorem Zpo(u:Nat):∀c∈Lib.decDigits u,48≤c.toNat∧c.toNat≤57:=by
 induction u using Nat.strongRecOn with
 | _ u ih=>
  intro c hc
  by_cases h:u<10
  ·rw[Lib.decDigits_one h,List.mem_singleton]at hc
   subst hc;rw[Z68 h];omega
  ·rw[Lib.decDigits,dif_neg h]at hc
   rcases List.mem_append.1 hc with hc|hc
   ·exact ih (u / 10) (by omega) c hc
   ·rw[List.mem_singleton]at hc
    subst hc;rw[Z68 (Nat.mod_lt _ (by decide))]
    have:=Nat.mod_lt u (show 0<10 by decide)
    omega
theorem Zpn(u:Nat):Lib.decDigits u≠[]:=by
 have h1:=Lib.decDigits_length u;have h2:=Lib.nDigits_pos u;intro e;rw[e]at h1;simp at h1;omega
theorem Zcu:∀(k u:Nat),1≤k→u<10 ^ k→Lib.nDigits u≤k
 | 0,_,h,_=>absurd h (by decide)
 | k+1,u,_,h=>by
  by_cases h0:u<10
  ·rw[Lib.nDigits_small h0];omega
  ·rw[Lib.nDigits_big h0]
   have hk:1≤k:=by
    rcases Nat.eq_zero_or_pos k with e|e
    ·subst e;simp at h;omega
    ·exact e
   rw[Nat.pow_succ]at h;have:=Zcu k (u / 10) hk (by omega)
   omega
theorem Zfz{b:B}:∀{a:B} {acc v:Nat},Lib.parseUint10 acc a=.ok v→Lib.parseUint10 acc (a++b)=Lib.parseUint10 v b
 | [],acc,v,h=>by
  simp only[Lib.parseUint10]at h
  injection h with h
  rw[h];rfl
 | c :: r,acc,v,h=>by
  rw[List.cons_append];simp only[Lib.parseUint10]at h ⊢;split at h
  ·rename_i hc
   rw[if_pos hc];split at h
   ·cases h
   ·rename_i h1
    rw[if_neg h1];split at h
    ·cases h
    ·rename_i h2
     rw[if_neg h2];exact Zfz h
  ·cases h
theorem Zoi(u:Nat):u<1000000→Lib.parseUint10 0 (Lib.decDigits u)=.ok u:=by
 induction u using Nat.strongRecOn with
 | _ u ih=>
  intro hu
  by_cases h:u<10
  ·rw[Lib.decDigits_one h]
   simp only[Lib.parseUint10,Z68 h];rw[if_pos (by omega),if_neg (by omega),if_neg (by omega)]
   congr 1;omega
  ·rw[Lib.decDigits,dif_neg h,Zfz (ih (u / 10) (by omega) (by omega))]
   have hm:=Nat.mod_lt u (show 0<10 by decide)
   simp only[Lib.parseUint10,Z68 hm];rw[if_pos (by omega),if_neg (by omega),if_neg (by omega)]
   congr 1;omega
theorem num_dec{u:Nat}(h:u<10000):numB 4 (Lib.decDigits u)=some u:=by
 have hp:=Zoi u (by omega)
 have hl:(Lib.decDigits u).length≤4:=by rw[Lib.decDigits_length];exact Zcu 4 u (by decide) h
 have ha:Lib.atoiAll (Lib.decDigits u)=.ok (u:Int):=by
  cases hd:Lib.decDigits u with
  | nil=>exact absurd hd (Zpn u)
  | cons c r=>
   have hc:=Zpo u c (by rw[hd];exact .head _)
   rw[hd]at hp;have h1:¬(c.toNat=43∨c.toNat=45):=by omega
   have h2:¬c.toNat=45:=by omega
   simp only[Lib.atoiAll,Lib.parseMag,if_neg h1,hp];have h3:¬(9223372036854775808≤u):=by omega
   simp[h2,h3]
 unfold numB;rw[ha];simp only;rw[if_pos ⟨hl,by omega,rfl⟩]
 rfl
def Apart(L:FL):Prop:=∀q∈L,∀r∈L,Z38 q.1 r.1=false
theorem Zji(p:B):Z38 p p=false:=by
 unfold Z38;cases h:(p++[47]).isPrefixOf p with
 | false=>rfl
 | true=>
  have:=(List.isPrefixOf_iff_prefix.1 h).length_le
  rw[List.length_append]at this;simp at this;exact absurd this (by omega)
theorem Apart.nil:Apart []:=by intro q hq;simp at hq
theorem Apart.del{L:FL}(h:Apart L)(p:B):Apart (delT L p):=fun q hq r hr=>h q (List.mem_filter.1 hq).1 r (List.mem_filter.1 hr).1
theorem Zdr{L:FL}{p x:B}(h:Z06 L p x=0):clash L p=false:=by
 unfold Z06 at h;split at h
 ·split at h
  ·omega
  ·split at h
   ·omega
   ·rename_i h3;simpa using h3
 ·omega
theorem Apart.put{L:FL}(h:Apart L)(hr:Rising L)(p x:B):Apart (putT L p x):=by
 unfold putT;by_cases h0:Z06 L p x=0
 ·rw[if_pos h0]
  have hc:=Zdr h0;unfold clash at hc;rw[List.any_eq_false]at hc;have key:∀q∈L,Z38 p q.1=false∧Z38 q.1 p=false:=fun q hq=>by
   have:=hc q hq
   simpa using this
  intro q hq r hr'
  rcases Z8y hr hq with rfl|hq
  ·rcases Z8y hr hr' with rfl|hr'
   ·exact Zji _
   ·exact(key r hr').1
  ·rcases Z8y hr hr' with rfl|hr'
   ·exact(key q hq).2
   ·exact h q hq r hr'
 ·rw[if_neg h0];exact h
end Go.Proofs.YtnmhaipjfpongacGreatDoor
namespace Go.Proofs.YtnmhaipjfpongacGreatDoor
open Go.ChangeShapes Go.WideShapes Go.ChangeAt Go.RowKit
theorem line_baF(F p d x:B)(hd:d=Lib.decDigits x.length):((⟨F.toArray⟩:ByteArray)++⟨p.toArray⟩++⟨#[32]⟩++⟨d.toArray⟩++⟨#[10]⟩++⟨x.toArray⟩++⟨#[10]⟩)=⟨(F++Ze5 (p,x)).toArray⟩:=by
 rw[show (⟨#[32]⟩:ByteArray)=⟨([32]:B).toArray⟩ from rfl,show (⟨#[10]⟩:ByteArray)=⟨([10]:B).toArray⟩ from rfl]
 simp only[Z1e];simp[Ze5,hd]
theorem Zfe(w:World)(base m:Nat)(slv:Value)(L:FL)(h:Z20 w base m slv L)(h1:∀q∈L,q.1.length≤1000)(h2:∀q∈L,q.2.length≤2000)(hn:L.length≤60) :
  Calls Tryz.prog 32 #[.pointer (some ⟨m,0,none⟩)] w fun e w'=>e=.returned (S (Z48 L))∧Ext w w':=by
 obtain⟨a,cap,hv,_,_,hc⟩:=h.rd;subst hv;obtain⟨T,hT⟩:∃T,Hid (T=Z48 L):=⟨_,Q0 rfl⟩;rw[←hT.out];have HM:=Q0 h.cells;have HC:=Q0 hc;have H1:=Q0 h1;have H2:=Q0 h2;clear hc h h1 h2;go_enter Tryz.func32,Tryz.ntmps32;go_wp2_with fail;go_loopw [3,4] (fun o i wr=>∃j:Nat,j≤L.length∧i=.int .i64 j∧o=S (Z48 (L.take j))∧Hid (Ext w wr)) (fun _ i _=>L.length-(intOf i).toNat)
 case atStart=>exact⟨0,Nat.zero_le _,rfl,rfl,Q0 (Only.refl _ _)⟩
 case round=>
  obtain⟨j,hj,rfl,rfl,HX⟩:=hrel;have c1:wr.cell? ⟨m,0,none⟩=some (.slice a L.length cap):=(Z00 (HX.out.heapOf HM.out (fun h=>h)) 0).trans rfl
  by_cases hlt:j<L.length
  ·have hltz:(j:Int)<(L.length:Int):=by omega
   obtain⟨b,off,rfl,hcell⟩:=HC.out (by intro h;rw[h]at hlt;simp at hlt)
   obtain⟨⟨p,x⟩,hq⟩:∃y,L[j]?=some y:=⟨_,Q1 hlt⟩;have d0:wr.cell? ⟨b,off+j*2,none⟩=some (S p):=HX.out.cellOf (hcell j _ hq 0 _ rfl) (fun h=>h)
   have d1:wr.cell? ⟨b,off+j*2+1,none⟩=some (S x):=HX.out.cellOf (hcell j _ hq 1 _ rfl) (fun h=>h)
   have hxl:=H2.out _ (Q4 hq);have hpl:=H1.out _ (Q4 hq);have hxn:x.length≤2000:=hxl;have hpn:p.length≤1000:=hpl;have hit:=fun W=>Z4e W x.length (by omega)
   have hdl:=Z5r x.length (by omega)
   have hst:=Z4t hq;have htl:=Z2z H1.out H2.out j;obtain⟨F,hF⟩:∃F,F=Z48 (L.take j):=⟨_,rfl⟩;rw[←hF]at hst htl ⊢;obtain⟨d,hd⟩:∃d,d=Lib.decDigits x.length:=⟨_,rfl⟩;have hba:=line_baF F p d x hd;rw[←hd]at hdl;simp only[←hd]at hit;rw[←hst]at hba;have q0:¬9223372036854775807<F.length+p.length:=by omega
   have q1:¬9223372036854775807<F.length+p.length+1:=by omega
   have q2:¬9223372036854775807<F.length+p.length+1+d.length:=by omega
   have q3:¬9223372036854775807<F.length+p.length+1+d.length+1:=by omega
   have q4:¬9223372036854775807<F.length+p.length+1+d.length+1+x.length:=by omega
   have q5:¬9223372036854775807<F.length+p.length+1+d.length+1+x.length+1:=by omega
   have HIT:=Q0 hit;have HBA:=Q0 hba;clear hcell hq hF hd hit hst hba htl hdl hxl hpl hxn hpn;go_wp2_with fail;go_region_held3 (fun w'=>Ext w w'∧w'.cell? ⟨m,0,none⟩=some (.slice (some ⟨b,off,none⟩) L.length cap)∧w'.cell? ⟨b,off+j*2,none⟩=some (S p)∧w'.cell? ⟨b,off+j*2+1,none⟩=some (S x)) (first|exact⟨HX5.out,e2,e0,e1⟩|exact⟨HX.out,c1,d0,d1⟩|exact⟨HX.out.thenDrew,c1,d0,d1⟩|go_keep) ((go_at_call 109;refine(HIT.out _).mono ?_;rintro e w5 ⟨rfl,ho⟩;have HX5:Hid (Ext w w5):=Q0 (Only.ext (by first|exact HX.out|exact HX.out.thenDrew) ho);have e0:w5.cell? ⟨b,off+j*2,none⟩=some (S p):=ho.cellOf (by simpa using d0) (fun h=>h);have e1:w5.cell? ⟨b,off+j*2+1,none⟩=some (S x):=ho.cellOf (by simpa using d1) (fun h=>h);have e2:w5.cell? ⟨m,0,none⟩=some (.slice (some ⟨b,off,none⟩) L.length cap):=ho.cellOf (by simpa using c1) (fun h=>h);clear ho))
   all_goals go_wp2
   all_goals
    refine⟨⟨j+1,by omega,by go_num,?_,HX5⟩,(by simp[intOf];omega)⟩
    exact congrArg Value.string HBA.out
  ·have hltz:¬((j:Int)<(L.length:Int)):=by omega
   have ht:L.take j=L:=List.take_of_length_le (by omega)
   rw[ht,←hT.out];go_wp2_with fail;go_ret;exact⟨rfl,HX.out⟩
end Go.Proofs.YtnmhaipjfpongacGreatDoor
