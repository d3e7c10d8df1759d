/- A part of this claim's proof;each theorem bears its own conditions. -/
import Derived.Test.YtnmhaipjfpongacGreatDoorPR8
set_option maxRecDepth 100000
set_option maxHeartbeats 2000000
namespace Go.Proofs.YtnmhaipjfpongacGreatDoor
open Go.ChangeShapes Go.WideShapes Go.ChangeAt Go.RowKit
theorem Zmn(w:World)(kind word:B)(v:Value)(ins:List B)(hv:Rd S w v ins)(h1:kind.length≤100)(h2:word.length≤100)(h3:ins.length≤12)(h4:∀x∈ins,x.length≤3000) :
  Calls Tryz.prog 129 #[S kind,S word,v] w fun e w'=>e=.returned (S (keyT kind word ins))∧Ext w w':=by
 obtain⟨a,cap,rfl,_,_,hc⟩:=hv;have l1:=Z5r kind.length (by omega)
 have l2:=Z5r word.length (by omega)
 have l3:=Z95 kind (by omega)
 have l4:=Z95 word (by omega)
 have hdk:=Z4e w kind.length (by omega)
 have hdw:=fun w1=>Z4e w1 word.length (by omega)
 obtain⟨K,hK⟩:∃K,K=keyT kind word ins:=⟨_,rfl⟩;obtain⟨C,hC⟩:∃C,C=cnt kind++cnt word:=⟨_,rfl⟩;have hCl:C.length≤242:=by rw[hC];simp;omega
 have hKe:K=C++ins.flatMap cnt:=by rw[hK,hC];rfl
 have hCe:((⟨(Lib.decDigits kind.length).toArray⟩:ByteArray)++⟨#[58]⟩++⟨kind.toArray⟩++⟨(Lib.decDigits word.length).toArray⟩++⟨#[58]⟩++⟨word.toArray⟩)=⟨C.toArray⟩:=by
  rw[show (⟨#[58]⟩:ByteArray)=⟨([58]:B).toArray⟩ from rfl]
  simp only[Z1e];rw[hC];simp[cnt]
 rw[←hK];generalize Lib.decDigits kind.length=dk at l1 hdk hCe;generalize Lib.decDigits word.length=dw at l2 hdw hCe;have q1:¬9223372036854775807<dk.length+1:=by omega
 have q2:¬9223372036854775807<dk.length+1+kind.length:=by omega
 have q3:¬9223372036854775807<dk.length+1+kind.length+dw.length:=by omega
 have q4:¬9223372036854775807<dk.length+1+kind.length+dw.length+1:=by omega
 have q5:¬9223372036854775807<dk.length+1+kind.length+dw.length+1+word.length:=by omega
 have HKE:=Q0 hKe;have HCE:=Q0 hCe;have HDK:=Q0 hdk;have HDW:=Q0 hdw;have HC:=Q0 hc;have H4:=Q0 h4;clear hc hKe hCe hdk hdw hK hC h4 l1 l2 l3 l4 h1 h2;go_enter Tryz.func129,Tryz.ntmps129;go_wp2_with fail;refine HDK.out.mono ?_;rintro e w1 ⟨rfl,ho⟩;have HO1:=Q0 ho;clear ho;go_wp2_with fail;refine(HDW.out _).mono ?_;rintro e w2 ⟨rfl,ho⟩;have HO2:=Q0 (HO1.out.ext ho);clear ho;go_wp2_with fail;rw[HCE.out];clear q1 q2 q3 q4 q5 HDK HDW HCE HO1;go_loopw [7,8] (fun o i wr=>∃j:Nat,j≤ins.length∧i=.int .i64 j∧o=S (C++(ins.take j).flatMap cnt)∧Hid (Ext w wr)) (fun _ i _=>ins.length-(intOf i).toNat)
 case atStart=>exact⟨0,Nat.zero_le _,rfl,by simp,HO2⟩
 case round=>
  obtain⟨j,hj,rfl,rfl,HX⟩:=hrel;by_cases hlt:j<ins.length
  ·have hltz:(j:Int)<(ins.length:Int):=by omega
   obtain⟨b0,off,rfl,hcell⟩:=HC.out (by intro h;rw[h]at hlt;simp at hlt)
   obtain⟨x,hx⟩:∃y,ins[j]?=some y:=⟨_,Q1 hlt⟩;have d0:wr.cell? ⟨b0,off+j,none⟩=some (S x):=HX.out.cellOf (hcell j x hx) (fun h=>h)
   have hxl:=H4.out x (Q4 hx);have hst:=Z4y hx;have hfl:=Z4z H4.out j;have hdx:=fun w1=>Z4e w1 x.length (by omega)
   have hdl:=Z5r x.length (by omega)
   have hcx:=cnt_ba x;obtain⟨F,hF⟩:∃F,F=C++(ins.take j).flatMap cnt:=⟨_,rfl⟩;have hFl:F.length≤60000:=by rw[hF,List.length_append];omega
   have hFs:C++(ins.take (j+1)).flatMap cnt=F++cnt x:=by rw[hst,hF];simp
   rw[←hF];have hce:((⟨F.toArray⟩:ByteArray)++⟨(Lib.decDigits x.length).toArray⟩++⟨#[58]⟩++⟨x.toArray⟩)=⟨(F++cnt x).toArray⟩:=by
    rw[show (⟨#[58]⟩:ByteArray)=⟨([58]:B).toArray⟩ from rfl]
    simp only[Z1e];simp[cnt]
   generalize Lib.decDigits x.length=dx at hdx hdl hce;have q1:¬9223372036854775807<F.length+dx.length:=by omega
   have q2:¬9223372036854775807<F.length+dx.length+1:=by omega
   have q3:¬9223372036854775807<F.length+dx.length+1+x.length:=by omega
   have HFS:=Q0 hFs;have HDX:=Q0 hdx;have HCX:=Q0 hce;clear hcell hx hst hcx hF hdx hfl hFs hce hdl hFl;go_wp2_with fail;go_region_law (go_simp;go_at_call 109;refine(HDX.out _).mono ?_;rintro e w5 ⟨rfl,ho⟩;have HX5:Hid (Ext w w5):=Q0 (Only.ext (by first|exact HX.out|exact HX.out.thenDrew) ho);have d1:w5.cell? ⟨b0,off+j,none⟩=some (S x):=ho.cellOf (by simpa using d0) (fun h=>h);clear ho)
   all_goals go_wp2
   all_goals
    refine⟨⟨j+1,by omega,by go_num,?_,HX5⟩,(by simp[intOf];omega)⟩
    rw[HCX.out,HFS.out]
  ·have hltz:¬((j:Int)<(ins.length:Int)):=by omega
   have ht:ins.take j=ins:=List.take_of_length_le (by omega)
   rw[ht,←HKE.out];go_wp2_with fail;go_ret;exact⟨rfl,HX.out⟩
abbrev encE(p:B×B):List Value:=[S p.1,S p.2]
theorem Z8f(p:B×B):(encE p).length=2:=rfl
theorem Zeo(p:B×B):∀u∈encE p,u.oneCell'=true:=by
 intro u hu
 rcases List.mem_cons.1 hu with rfl|hu
 ·rfl
 ·rcases List.mem_cons.1 hu with rfl|hu
  ·rfl
  ·cases hu
theorem Zba:(Tryz.prog.info? 262).map (fun i=>(i.zero,i.size,i.bytes))=some (some (.agg #[.string ⟨#[]⟩,.string ⟨#[]⟩]),2,32):=by kernel_rfl
def fnd(L:List (B×B))(k:B):Int:=match L.findIdx? (fun p=>p.1==k)with|some i=>(i:Int)|none=>-1
theorem fnd_hit{L:List (B×B)}{k:B}{j:Nat}{p:B×B}(hp:L[j]?=some p)(hk:p.1=k)(hb:∀i (q:B×B),i<j→L[i]?=some q→q.1≠k):fnd L k=(j:Int):=by
 have hj:=(Q2 hp).1;have:L.findIdx? (fun p=>p.1==k)=some j:=by
  rw[List.findIdx?_eq_some_iff_getElem];refine⟨hj,?_,fun i hi=>?_⟩
  ·have:=(Q2 hp).2
   rw[this,hk];simp
  ·have:=hb i L[i] hi (Q1 (by omega))
   simpa using this
 unfold fnd;rw[this]
theorem fnd_miss{L:List (B×B)}{k:B}(hb:∀(i:Nat)(q:B×B),L[i]?=some q→q.1≠k):fnd L k=-1:=by
 have:L.findIdx? (fun p=>p.1==k)=none:=by
  rw[List.findIdx?_eq_none_iff];intro q hq;obtain⟨i,hi⟩:=List.getElem?_of_mem hq;have:=hb i q hi;simpa using this
 unfold fnd;rw[this]
theorem Ze4{L:List (B×B)}{k:B}:(fnd L k=-1∧L.lookup k=none)∨∃(j:Nat)(x:B),fnd L k=(j:Int)∧L[j]?=some (k,x)∧L.lookup k=some x:=by
 induction L with
 | nil=>exact .inl ⟨rfl,rfl⟩
 | cons p L ih=>
  obtain⟨k',x⟩:=p;by_cases h:k'=k
  ·subst h
   exact .inr ⟨0,x,by simp[fnd,List.findIdx?_cons],rfl,by simp⟩
  ·have h':¬k=k':=fun e=>h e.symm
   have hl:((k',x) :: L).lookup k=L.lookup k:=by simp[List.lookup,Q3 h']
   rw[hl];have hf:((k',x) :: L).findIdx? (fun p=>p.1==k)=(L.findIdx? (fun p=>p.1==k)).map (· + 1):=by simp[List.findIdx?_cons,h]
   rcases ih with⟨h1,h2⟩|⟨j,y,h1,h2,h3⟩
   ·refine .inl ⟨?_,h2⟩
    unfold fnd at h1 ⊢;rw[hf];cases hq:L.findIdx? (fun p=>p.1==k)with
    | none=>rfl
    | some i=>rw[hq]at h1;simp at h1 <;> omega
   ·refine .inr ⟨j+1,y,?_,by simpa using h2,h3⟩
    unfold fnd at h1 ⊢;rw[hf];cases hq:L.findIdx? (fun p=>p.1==k)with
    | none=>rw[hq]at h1;simp at h1 <;> omega
    | some i=>rw[hq]at h1;simp at h1 ⊢;omega
theorem Zmt(w:World)(m:Nat)(c0 slv:Value)(L:List (B×B))(k:B)(hm:w.heap[m]?=some (.cells #[c0,slv] 93 (0,0)))(hr:RdS 2 encE w slv L)(hl:L.length≤1000000) :
  Calls Tryz.prog 194 #[.pointer (some ⟨m,0,none⟩),S k] w fun e w'=>e=.returned (I (fnd L k))∧w=w':=by
 obtain⟨a,cap,rfl,_,_,hc⟩:=hr;have c1:w.cell? ⟨m,1,none⟩=some (.slice a L.length cap):=(Z00 hm 1).trans rfl;obtain⟨r,hR⟩:∃r,Hid (r=fnd L k):=⟨_,Q0 rfl⟩;rw[←hR.out];have HC:=Q0 hc;clear hc hm;go_enter Tryz.func194,Tryz.ntmps194;go_wp2_with fail;go_loop [5] (fun i=>∃j:Nat,j≤L.length∧i=.int .i64 j∧Hid (∀i q,i<j→L[i]?=some q→q.1≠k)) (fun i=>L.length-(intOf i).toNat)
 case atStart=>exact⟨0,Nat.zero_le _,rfl,Q0 (fun i q h=>absurd h (Nat.not_lt_zero _))⟩
 case round=>
  obtain⟨j,hj,rfl,hb⟩:=hrel;by_cases hlt:j<L.length
  ·have hltz:(j:Int)<(L.length:Int):=by omega
   obtain⟨b,off,rfl,hcell⟩:=HC.out (by intro h;rw[h]at hlt;simp at hlt)
   obtain⟨⟨k',x⟩,hp⟩:∃y,L[j]?=some y:=⟨_,Q1 hlt⟩;have d0:w.cell? ⟨b,off+j*2,none⟩=some (S k'):=hcell j _ hp 0 _ rfl;have HP:=Q0 hp;clear hcell hp;by_cases hk:k'=k
   ·have HK:=Q0 hk
    rw[hk]at d0;clear hk;go_wp2_with fail;go_ret;exact⟨(by rw[hR.out,fnd_hit HP.out HK.out hb.out];rfl),rfl⟩
   ·have hkf:(k'==k)=false:=Q3 hk
    have HK:=Q0 hk;clear hk;go_wp2_with fail;go_round
    case rel=>exact⟨j+1,by omega,by go_num,Q0 (fun i q hi hq=>by
     rcases Nat.lt_succ_iff_lt_or_eq.1 hi with h|rfl
     ·exact hb.out i q h hq
     ·rw[HP.out]at hq;cases hq;exact HK.out)⟩
    case measure=>simp[intOf];omega
  ·have hltz:¬((j:Int)<(L.length:Int)):=by omega
   go_wp2_with fail;go_ret
   exact⟨(by rw[hR.out,fnd_miss (fun i q hq=>hb.out i q (by have:=(Q2 hq).1;omega) hq)];rfl),rfl⟩
def GotM(w:World)(m:Nat)(many:Nat)(slv:Value)(L:List (B×B))(r:Value)(e:Ending)(w':World):Prop:=
 ∃slv',e=.returned r∧w'.heap[m]?=some (.cells #[I many,slv'] 93 (0,0))∧RdS 2 encE w' slv' L∧Only (fun i=>i=m) w w'∧∀i,slv'.ownBlock=some i→slv.ownBlock=some i∨(w.heap.size≤i∧i<w'.heap.size)
abbrev Z1q(k:B):B×B→Bool:=fun p=>!(p.1==k)
theorem Zgy{L:List (B×B)}{j:Nat}{k' x k:B}(hp:L[j]?=some (k',x))(h:k'=k):(L.take (j+1)).filter (Z1q k)=(L.take j).filter (Z1q k):=by
 rw[List.take_add_one,hp];simp[h]
theorem Zec{L:List (B×B)}{j:Nat}{k' x k:B}(hp:L[j]?=some (k',x))(h:k'≠k):(L.take (j+1)).filter (Z1q k)=(L.take j).filter (Z1q k)++[(k',x)]:=by
 rw[List.take_add_one,hp];simp[h]
def PutLoopC(w:World)(L:List (B×B))(k:B)(v i:Value)(wr:World):Prop:=
 ∃j:Nat,j≤L.length∧i=.int .i64 j∧Hid (Ext w wr)∧Hid (wr.ownsRow w.heap.size 262 2 v ((L.take j).filter (Z1q k)).length (((L.take j).filter (Z1q k)).flatMap encE))
theorem Zar{w w3:World}{m many:Nat}{v slv:Value}{T:List (B×B)}(hm:w.heap[m]?=some (.cells #[I many,slv] 93 (0,0)))(hx:Ext w w3)(hr:RdS 2 encE w3 v T)(hn:∀i,v.ownBlock=some i→w.heap.size≤i∧i<w3.heap.size) :
  GotM w m many slv T (.tuple #[]) (.returned (.tuple #[])) (w3.setCell ⟨m,1,none⟩ v):=by
 have hm3:=hx.heapOf hm (fun h=>h)
 have hs:=Only.set (p:=fun i=>i=m) (w:=w3) (a:=⟨m,1,none⟩) v rfl
 have hlt:=Z03 hm;exact⟨v,rfl,(Z01 hm3 1 v).trans (by simp),hr.later hs (fun i e e1=>by have:=hn i e;omega),Only.after hx hs,fun i e=>.inr (by have:=hn i e;exact⟨this.1,by simpa using this.2⟩)⟩
theorem Zoa{w:World}{g cap:Nat}{p0:B×B}{T:List (B×B)}(h:RdS 2 encE w (.slice (some ⟨g,0,none⟩) (T.length+1) cap) (p0 :: T)) :
  (cap=1→RdS 2 encE w (.slice (some ⟨g,0,none⟩) T.length 0) T)∧RdS 2 encE w (.slice (some ⟨g,2,none⟩) T.length (cap-1)) T:=by
 refine⟨fun hc=>?_,h.tail g 2 (fun _=>⟨rfl,by omega⟩)⟩
 subst hc;refine h.tail g 0 (fun hT=>?_)
 obtain⟨a,cap,hv,h1,_⟩:=h;cases hv;simp at h1;exact absurd h1 hT
theorem Zfu(w:World)(m many:Nat)(slv:Value)(L:List (B×B))(k x:B)(hm:w.heap[m]?=some (.cells #[I many,slv] 93 (0,0)))(hr:RdS 2 encE w slv L)(hl:L.length≤1000) :
  Calls Tryz.prog 131 #[.pointer (some ⟨m,0,none⟩),S k,S x] w (GotM w m many slv (putL many L k x) (.tuple #[])):=by
 obtain⟨a,cap,rfl,_,_,hc⟩:=hr;obtain⟨L1,HL1⟩:∃L1,Hid (L1=L.filter (Z1q k)++[(k,x)]):=⟨_,Q0 rfl⟩;have hput:putL many L k x=if many<L1.length then L1.tail else L1:=by rw[HL1.out];rfl
 obtain⟨T,HT⟩:∃T,Hid (T=putL many L k x):=⟨_,Q0 rfl⟩;rw[←HT.out];rw[←HT.out]at hput;have HP:=Q0 hput;have HM:=Q0 hm;have HC:=Q0 hc;clear hc hm hput;go_enter Tryz.func131,Tryz.ntmps131;go_wp2_with fail;go_loopw [6,7] (fun v i wr=>PutLoopC w L k v i wr) (fun _ i _=>L.length-(intOf i).toNat)
 case atStart=>exact⟨0,Nat.zero_le _,rfl,Q0 (Only.refl _ _),Q0 (World.ownsRow_nil _ _ _ _)⟩
 case round=>
  obtain⟨j,hj,rfl,hx,hrow⟩:=hrel;have HX:=hx;have HR:=hrow;clear hx hrow;have c1:wr.cell? ⟨m,1,none⟩=some (.slice a L.length cap):=(Z00 (HX.out.heapOf HM.out (fun h=>h)) 1).trans rfl
  by_cases hlt:j<L.length
  ·have hltz:(j:Int)<(L.length:Int):=by omega
   obtain⟨b,off,rfl,hcell⟩:=HC.out (by intro h;rw[h]at hlt;simp at hlt)
   obtain⟨⟨k',y⟩,hp⟩:∃y,L[j]?=some y:=⟨_,Q1 hlt⟩;have d0:wr.cell? ⟨b,off+j*2,none⟩=some (S k'):=HX.out.cellOf (hcell j _ hp 0 _ rfl) (fun h=>h)
   have d1:wr.cell? ⟨b,off+j*2+1,none⟩=some (S y):=HX.out.cellOf (hcell j _ hp 1 _ rfl) (fun h=>h)
   clear hcell;by_cases hk:k'=k
   ·have hstep:=Zgy hp hk
    have HST:=Q0 hstep;have hxx:(k != k)=false:=by simp
    rw[hk]at d0;clear hp hk hstep;go_wp2_with fail;go_roundw
    case rel=>exact⟨j+1,by omega,by go_num,HX,Q0 (by rw[HST.out];exact HR.out)⟩
    case measure=>simp[intOf];omega
   ·have hstep:=Zec hp hk
    have HST:=Q0 hstep;have hkf:(k'==k)=false:=Q3 hk;have hfl:((L.take j).filter (Z1q k)).length≤1000000:=by
     have:=List.length_filter_le (Z1q k) (L.take j)
     rw[List.length_take]at this;omega
    obtain⟨F,hF⟩:∃F,Hid (F=(L.take j).filter (Z1q k)):=⟨_,Q0 rfl⟩;rw[←hF.out]at HR HST hfl;clear hp hk hstep;go_wp2_with (at_builtin;refine Z14 encE 91 262 2 32 _ Zba Tryz.underlying91 rfl (by decide) Z8f Zeo (by decide) (.tmp 27) (.tmp 35) w.heap.size _ F (k',y) _ _ rfl rfl rfl rfl rfl HR.out hfl HX.out.size ?_;intro g5 cap5 w5 ho5 hg5 ha5;have b5:Ext w w5:=Z49 HX.out (Zi1 HR.out) hg5;have HX5:=Q0 b5;have HO5:=Q0 ho5;clear ho5 hg5 ha5 b5)
    go_roundw
    case rel=>exact⟨j+1,by omega,by go_num,HX5,Q0 (by rw[HST.out];simpa using HO5.out)⟩
    case measure=>simp[intOf];omega
  ·have hltz:¬((j:Int)<(L.length:Int)):=by omega
   have ht:L.take j=L:=List.take_of_length_le (by omega)
   rw[ht]at HR;have hfl:(L.filter (Z1q k)).length≤1000000:=by
    have:=List.length_filter_le (Z1q k) L
    omega
   obtain⟨F,hF⟩:∃F,Hid (F=L.filter (Z1q k)):=⟨_,Q0 rfl⟩;rw[←hF.out]at HR hfl HL1;clear ht;have hln:L1.length=F.length+1:=by rw[HL1.out];simp
   have HLN:=Q0 hln;clear hln;by_cases hml:many<F.length+1
   ·have hmz:(many:Int)<(F.length:Int)+1:=by omega
    go_wp2_with (at_builtin;refine Z14 encE 91 262 2 32 _ Zba Tryz.underlying91 rfl (by decide) Z8f Zeo (by decide) (.tmp 37) (.tmp 41) w.heap.size _ F (k,x) _ _ rfl rfl rfl rfl rfl HR.out hfl HX.out.size ?_;intro g5 cap5 w5 ho5 hg5 ha5;have b5:Ext w w5:=Z49 HX.out (Zi1 HR.out) hg5;have m5:=b5.heapOf HM.out (fun h=>h);have p0:w5.cell? ⟨m,0,none⟩=some (I many):=(Z00 m5 0).trans rfl;have p1:w5.cell? ⟨m,1,none⟩=some (.slice a L.length cap):=(Z00 m5 1).trans rfl;have p2:w5.frozen? ⟨m,1,none⟩=false:=Z02 m5 1;have hgb:w.heap.size≤g5∧g5<w5.heap.size:=ho5.lt g5 rfl;have HX5:=Q0 b5;have HO5:=Q0 ho5;have HM5:=Q0 m5;clear ho5 hg5 ha5 b5 m5)
    all_goals go_end0
    all_goals
     obtain⟨p0,T',hT'⟩:∃p0 T',L1=p0 :: T':=List.exists_cons_of_length_pos (by rw[HLN.out];omega)
     have eT:T=T':=by rw[HP.out,HLN.out,if_pos hml,hT'];rfl
     have hlT:T.length=F.length:=by have:=HLN.out;rw[hT']at this;simpa [eT] using this
     have hr1:RdS 2 encE w5 (.slice (some ⟨g5,0,none⟩) (F.length+1) cap5) L1:=RdS.of_row Z8f (by have:=HO5.out;rw[←HL1.out]at this;rw[HLN.out];exact this)
     rw[hT',←eT,←hlT]at hr1;have hcut:=Zoa hr1;rw[←hlT];first
      | exact Zar HM.out HX5.out (hcut.1 (by assumption)) (fun i e=>by cases e;exact hgb)
      | exact Zar HM.out HX5.out hcut.2 (fun i e=>by cases e;exact hgb)
   ·have hmz:¬(many:Int)<(F.length:Int)+1:=by omega
    go_wp2_with (at_builtin;refine Z14 encE 91 262 2 32 _ Zba Tryz.underlying91 rfl (by decide) Z8f Zeo (by decide) (.tmp 37) (.tmp 41) w.heap.size _ F (k,x) _ _ rfl rfl rfl rfl rfl HR.out hfl HX.out.size ?_;intro g5 cap5 w5 ho5 hg5 ha5;have b5:Ext w w5:=Z49 HX.out (Zi1 HR.out) hg5;have m5:=b5.heapOf HM.out (fun h=>h);have p0:w5.cell? ⟨m,0,none⟩=some (I many):=(Z00 m5 0).trans rfl;have p1:w5.cell? ⟨m,1,none⟩=some (.slice a L.length cap):=(Z00 m5 1).trans rfl;have p2:w5.frozen? ⟨m,1,none⟩=false:=Z02 m5 1;have hgb:w.heap.size≤g5∧g5<w5.heap.size:=ho5.lt g5 rfl;have HX5:=Q0 b5;have HO5:=Q0 ho5;have HM5:=Q0 m5;clear ho5 hg5 ha5 b5 m5)
    all_goals go_end0
    have eT:T=L1:=by rw[HP.out,HLN.out,if_neg hml]
    have hr1:RdS 2 encE w5 (.slice (some ⟨g5,0,none⟩) (F.length+1) cap5) L1:=RdS.of_row Z8f (by have:=HO5.out;rw[←HL1.out]at this;rw[HLN.out];exact this)
    rw[←eT]at hr1;exact Zar HM.out HX5.out hr1 (fun i e=>by cases e;exact hgb)
theorem putL_get{many:Nat}{L:List (B×B)}{k x:B}(hn:(L.map (·.1)).Nodup)(h:L.lookup k=some x)(hl:L.length≤many):putL many L k x=getL L k:=by
 have hp:=(Z21 hn h).length_eq;unfold putL getL;rw[h];have:¬many<(L.filter (fun p=>!(p.1==k))++[(k,x)]).length:=by simp at hp ⊢;omega
 rw[if_neg this]
theorem Zpc(w:World)(m many:Nat)(slv:Value)(L:List (B×B))(k:B)(hm:w.heap[m]?=some (.cells #[I many,slv] 93 (0,0)))(hr:RdS 2 encE w slv L)(hl:L.length≤1000)(hlm:L.length≤many)(hn:(L.map (·.1)).Nodup) :
  Calls Tryz.prog 130 #[.pointer (some ⟨m,0,none⟩),S k] w (GotM w m many slv (getL L k) (.tuple #[S ((L.lookup k).getD []),.bool (L.lookup k).isSome])):=by
 have hfind:=Zmt w m _ slv L k hm hr (by omega)
 rcases Ze4 (L:=L) (k:=k)with⟨h1,h2⟩|⟨j,x,h1,h2,h3⟩
 ·have e1:getL L k=L:=by unfold getL;rw[h2]
  rw[e1,h2];rw[h1]at hfind;have HF:=Q0 hfind;have HM:=Q0 hm;have HR:=Q0 hr;clear hfind h1 h2 e1 hm hr;go_enter Tryz.func130,Tryz.ntmps130;go_wp2_with (go_at_call 194;refine HF.out.mono ?_;rintro e w1 ⟨rfl,rfl⟩);go_ret2;exact⟨slv,rfl,HM.out,HR.out,Only.refl _ _,fun i e=>.inl e⟩
 ·have hput:=Zfu w m many slv L k x hm hr hl
  rw[putL_get hn h3 hlm]at hput;rw[h3];rw[h1]at hfind;have hj:(j:Int)<(L.length:Int):=by have:=(Q2 h2).1;omega
  have hj0:¬((j:Int)<0):=by omega
  obtain⟨a,cap,rfl,_,_,hc⟩:=hr;obtain⟨b,off,rfl,hcell⟩:=hc (by rintro rfl;simp at h2)
  have c1:w.cell? ⟨m,1,none⟩=some (.slice (some ⟨b,off,none⟩) L.length cap):=(Z00 hm 1).trans rfl
  have d1:w.cell? ⟨b,off+j*2+1,none⟩=some (S x):=hcell j _ h2 1 _ rfl
  have HF:=Q0 hfind;have HP:=Q0 hput;clear hfind h1 h2 h3 hm hc hcell hput hn;go_enter Tryz.func130,Tryz.ntmps130;go_wp2_with (first|(go_at_call 194;refine HF.out.mono ?_;rintro e w1 ⟨rfl,rfl⟩)|(go_at_call 131;refine HP.out.mono ?_;rintro e w1 ⟨slv1,rfl,hm1,hr1,ho1,hn1⟩));go_ret2;exact⟨slv1,rfl,hm1,hr1,ho1,hn1⟩
end Go.Proofs.YtnmhaipjfpongacGreatDoor
