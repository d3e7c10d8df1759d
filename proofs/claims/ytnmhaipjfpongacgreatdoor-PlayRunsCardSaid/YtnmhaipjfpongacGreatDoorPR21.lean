/- A part of this claim's proof;each theorem bears its own conditions. -/
import Derived.Test.YtnmhaipjfpongacGreatDoorPR20
set_option maxRecDepth 100000
set_option maxHeartbeats 4000000
namespace Go.Proofs.YtnmhaipjfpongacGreatDoor
open Go.ChangeShapes Go.WideShapes Go.ChangeAt Go.RowKit
theorem Row.down{b b':Nat}{w:World}{v:Value}{l:List B}(h:Row b' w v l)(hb:b≤b'):Row b w v l:=
 ⟨h.1,h.2.imp id fun⟨g,cap,cur,e,hg,r⟩=>⟨g,cap,cur,e,Nat.le_trans hb hg,r⟩⟩
theorem sort_lay(X:List B)(s:B):Z0m (Z0m X++[s])=Z0m (X++[s]):=Zch ((List.mergeSort_perm X _).append_right [s])
theorem Zme(w:World)(nm wd:B)(l:List B)(v:Value)(he:KdIs .count nm)(hv:Rd S w v l)(hb:Z0h l+l.length≤900000) :
  Calls Tryz.prog 171 #[S nm,S wd,v] w (RetE (S (Lib.decDigits (allB l).length++32 :: Lib.decDigits (Z0h l)++[10])) w):=by
 obtain⟨e1,e2,e3,e4,e5,e6,e7,e8⟩:=he
 change _=false at e1;change _=false at e2;change _=true at e3;change _=false at e4;change _=false at e5;change _=false at e6;change _=false at e7;change _=false at e8
 have hall:∀j,(allB (l.take j)).length≤900000:=fun j=>by
  have h1:=Z2m (allB (l.take j));have h2:=Z4d (l.take j);have h3:=Z6i l j;have h4:(l.take j).length≤l.length:=List.length_take_le' _ _;omega
 have hsum:∀j,Z0h (l.take j)≤900000:=fun j=>by have:=Z6i l j;omega
 have HX:Hid (∀x∈l,x.length≤900000):=Q0 fun x h=>by have:=Zad h;omega
 have HL:=Q0 (fun W x (hx:x.length≤900000)=>Z4m W x hx)
 have HD:=Q0 (fun W n (hn:n≤900000)=>Z4e W n (by omega))
 have HDL:=Q0 (fun n (hn:n≤900000)=>Z5r n (by omega))
 have HBA:=Q0 Zkv;obtain⟨a,cap,rfl,hcap,hm,hc⟩:=hv;have hlm:(l.length:Int)≤900000:=by omega
 obtain⟨R,hR⟩:∃R,R=Lib.decDigits (allB l).length++32 :: Lib.decDigits (Z0h l)++[10]:=⟨_,rfl⟩;rw[←hR];have HC:=Q0 hc;have HAL:=Q0 hall;have HSU:=Q0 hsum;have HR:=Q0 hR;clear hc hall hsum hR;clear hm hcap hb;go_enter Tryz.func171,Tryz.ntmps171;go_wp2_with fail;go_loopw [19,20,21] (fun n m i wr=>∃(j p q:Nat),j≤l.length∧i=.int .i64 j∧n=.int .i64 p∧m=.int .i64 q∧p≤900000∧q≤900000∧Hid (p=(allB (l.take j)).length)∧Hid (q=Z0h (l.take j))∧Hid (Ext w wr)) (fun _ _ i _=>l.length-(intOf i).toNat)
 case atStart=>exact⟨0,0,0,Nat.zero_le _,rfl,rfl,rfl,by omega,by omega,Q0 rfl,Q0 rfl,Q0 (Only.refl _ _)⟩
 case round=>
  obtain⟨j,p,q,hj,rfl,rfl,rfl,hp9,hq9,HP,HQ,HXX⟩:=hrel;by_cases hlt:j<l.length
  ·have hltz:(j:Int)<(l.length:Int):=by omega
   have hj0:(0:Int)≤(j:Int):=by omega
   obtain⟨b0,off,rfl,hcell⟩:=HC.out (by intro h;rw[h]at hlt;simp at hlt)
   obtain⟨x,hx⟩:∃y,l[j]?=some y:=⟨_,Q1 hlt⟩;have d0:=HXX.out.cellOf (hcell j x hx) (fun h=>h)
   have hx9:=HX.out x (Q4 hx);have hs1:=congrArg List.length (Zf1 hx);rw[List.length_append,←HP.out]at hs1;have hs2:=Zjp hx;rw[←HQ.out]at hs2;have hb1:=HAL.out (j+1);have hb2:=HSU.out (j+1);rw[hs1]at hb1;rw[hs2]at hb2;have HLL:=Q0 (HL.out wr x hx9);have HS1:=Q0 hs1;have HS2:=Q0 hs2;clear hs1 hs2;generalize Z0t x=L at *;clear hcell hx;go_wp2_with fail;refine(HLL.out).mono ?_;rintro e w2 ⟨vL,rfl,ho,hr⟩;have HX2:=Q0 (HXX.out.then ho);have HOO:=Q0 ho;have HRR:=Q0 hr;clear ho hr;have d1:=HOO.out.cellOf d0 (fun h=>h)
   obtain⟨aL,cL,rfl,_,_,_⟩:=HRR.out;clear d0;go_wp2_with fail;go_roundw
   case rel=>exact⟨j+1,p+L.length,q+x.length,by omega,by go_num,by go_num,by go_num,hb1,hb2,Q0 HS1.out.symm,Q0 HS2.out.symm,HX2⟩
   case measure=>simp[intOf];omega
  ·have hltz:¬(j:Int)<(l.length:Int):=by omega
   have ht:l.take j=l:=List.take_of_length_le (by omega)
   rw[ht]at HP HQ;have hb1:=HBA.out (Lib.decDigits p) (Lib.decDigits q);have hR:=HR.out;rw[←HP.out,←HQ.out]at hR;rw[←hR]at hb1;have HD1:=Q0 (fun W=>HD.out W p hp9)
   have HD2:=Q0 (fun W=>HD.out W q hq9)
   have hd1:=HDL.out p hp9;have hd2:=HDL.out q hq9;clear hR HR;generalize Lib.decDigits p=d1 at *;generalize Lib.decDigits q=d2 at *;have q1:¬9223372036854775807<d1.length+1:=by omega
   have q2:¬9223372036854775807<d1.length+1+d2.length:=by omega
   have q3:¬9223372036854775807<d1.length+1+d2.length+1:=by omega
   have HB1:=Q0 hb1;clear hb1;clear hd1 hd2;go_wp2_with fail;refine(HD1.out wr).mono ?_;rintro e w2 ⟨rfl,ho⟩;have HX2:=Q0 (HXX.out.then ho);clear ho;go_wp2_with fail;refine(HD2.out w2).mono ?_;rintro e w3 ⟨rfl,ho⟩;have HX3:=Q0 (HX2.out.then ho);clear ho;go_wp2_with fail;go_ret;exact⟨congrArg (fun x=>Ending.returned (Value.string x)) HB1.out,HX3.out⟩
theorem Zi2{s p q:B}(hpq:p≠q):Lib.replaceAll s p q=Lib.replaceK p q (Lib.count s p) s:=by
 unfold Lib.replaceAll Lib.replace;rw[if_neg (by simpa using hpq)]
 unfold Lib.replaceNum;rw[if_pos (Or.inl (by decide))]
theorem Zdp{s p q:B}{i:Nat}(hp:p≠[])(hpq:p≠q)(h:Lib.index s p=i):Lib.replaceAll s p q=s.take i++q++Lib.replaceAll (s.drop (i+p.length)) p q:=by
 rw[Zi2 hpq,Zi2 hpq,Lib.count_hit hp h,Nat.add_comm 1,Lib.replaceK_hit p q _ s i h]
theorem Zao{s p q:B}(h:Lib.index s p=-1):Lib.replaceAll s p q=s:=by
 by_cases hpq:p=q
 ·subst hpq
  unfold Lib.replaceAll Lib.replace;rw[if_pos (by simp)]
 ·rw[Zi2 hpq,Lib.count_miss h]
  rfl
theorem Z7t(s p:B):Lib.replaceAll s p p=s:=by
 unfold Lib.replaceAll Lib.replace;rw[if_pos (by simp)]
theorem Zdn{p q:B}(hp:p≠[]):Lib.replaceAll [] p q=[]:=Zao (by
 unfold Lib.index;cases p with
 | nil=>exact absurd rfl hp
 | cons c r=>rfl)
theorem Zfq{s p q:B}(hp:p≠[])(h:p.isPrefixOf s=true):Lib.replaceAll s p q=q++Lib.replaceAll (s.drop p.length) p q:=by
 by_cases hpq:p=q
 ·subst hpq
  rw[Z7t,Z7t];have:=List.prefix_iff_eq_append.1 (List.isPrefixOf_iff_prefix.1 h);exact this.symm
 ·have hi:Lib.index s p=((0:Nat):Int):=Lib.index_first (Nat.zero_le _) (by unfold Lib.occAt;simpa using h) (fun j hj=>absurd hj (Nat.not_lt_zero _))
  rw[Zdp hp hpq hi];simp
theorem Zfp{c:UInt8}{s p q:B}(hp:p≠[])(h:p.isPrefixOf (c :: s)=false):Lib.replaceAll (c :: s) p q=c :: Lib.replaceAll s p q:=by
 by_cases hpq:p=q
 ·subst hpq
  rw[Z7t,Z7t]
 ·have e:Lib.index (c :: s) p=if Lib.index s p == -1 then -1 else Lib.index s p+1:=by
   conv=>lhs;unfold Lib.index
   rw[h];rfl
  rcases Lib.index_spec s p with⟨h1,_⟩|⟨i,h1,_⟩
  ·rw[Zao h1,Zao (by rw[e,h1];rfl)]
  ·rw[Zdp hp hpq h1,Zdp (i:=i+1) hp hpq (by
    rw[e,h1];have:((i:Int) == -1)=false:=Q3 (by omega)
    rw[this];simp)]
   rw[show i+1+p.length=(i+p.length)+1 by omega]
   simp
def Swapped(x p q:B)(j:Nat)(A:B):Prop:=A++Lib.replaceAll (x.drop j) p q=Lib.replaceAll x p q
theorem Swapped.hit{x p q A:B}{j:Nat}(h:Swapped x p q j A)(hp:p≠[])(ho:Lib.occAt x p j=true):Swapped x p q (j+p.length) (A++q):=by
 unfold Swapped at h ⊢;rw[Zfq hp (by unfold Lib.occAt at ho;exact ho),List.drop_drop]at h
 rw[List.append_assoc];exact h
theorem Swapped.miss{x p q A:B}{j:Nat}{c:UInt8}(h:Swapped x p q j A)(hp:p≠[])(hc:x[j]?=some c)(ho:Lib.occAt x p j=false):Swapped x p q (j+1) (A++[c]):=by
 unfold Swapped at h ⊢;obtain⟨hj,e⟩:=Q2 hc;unfold Lib.occAt at ho;rw[List.drop_eq_getElem_cons hj,e]at h ho;rw[Zfp hp ho]at h;rw[List.append_assoc];exact h
theorem Swapped.le{x p q A:B}{j:Nat}(h:Swapped x p q j A):A.length≤(Lib.replaceAll x p q).length:=by
 unfold Swapped at h;rw[←h,List.length_append];omega
theorem cut_pair{wd:B}(h:Zc0 wd=true):cutc 61 wd=[(cut1 61 wd).1,(cut1 61 wd).2.1]∧(cut1 61 wd).1≠[]:=by
 refine⟨?_,Zdv h⟩;have hl:=Z3g 61 wd;unfold Zc0 at h;rw[Bool.and_eq_true,beq_iff_eq]at h;obtain⟨h1,h2,h3⟩:=Zbk 61 wd;cases hf:(cut1 61 wd).2.2 with
 | false=>
  have:=List.count_eq_zero.2 (h3 hf).2
  omega
 | true=>
  have e:=h2 hf;rw[e,List.count_append,List.count_cons_self,List.count_eq_zero.2 h1]at h;have h0:(61:UInt8)∉(cut1 61 wd).2.1:=fun hm=>by
   have:=List.count_pos_iff.2 hm
   omega
  conv=>lhs;rw[e]
  rw[Z6q 61 _ _ h1,Z46 61 _ h0]
theorem Zow(w:World)(nm wd x:B)(r:List B)(v:Value)(he:KdIs .swap nm)(hv:Rd S w v (x :: r))(hx:x.length≤900000)(hw:wd.length≤1000)(hpw:Zc0 wd=true)(hlen:(Lib.replaceAll x (cut1 61 wd).1 (cut1 61 wd).2.1).length≤1000000000) :
  Calls Tryz.prog 171 #[S nm,S wd,v] w (RetE (S (Lib.replaceAll x (cut1 61 wd).1 (cut1 61 wd).2.1)) w):=by
 obtain⟨e1,e2,e3,e4,e5,e6,e7,e8⟩:=he
 change _=false at e1;change _=true at e2;change _=false at e3;change _=false at e4;change _=false at e5;change _=false at e6;change _=false at e7;change _=false at e8
 obtain⟨b,off,cap,rfl,hc0,hln⟩:=Z5x hv;have hlz:(0:Int)<((r.length+1:Nat):Int):=by omega
 obtain⟨hcp,hp0⟩:=cut_pair hpw;have hC:=Z3c w 61 61 (by decide) wd (by omega)
 rw[hcp]at hC;have⟨hl1,hl2⟩:=Za6 61 wd;generalize (cut1 61 wd).1=p at *;generalize (cut1 61 wd).2.1=q at *;have HHS:=Q0 (fun W i (hi:i≤x.length)=>Zj1 W x p i (by omega) (by omega) hi)
 obtain⟨R,hR⟩:∃R,R=Lib.replaceAll x p q:=⟨_,rfl⟩;rw[←hR]at hlen ⊢;have hp1:1≤p.length:=List.length_pos_iff.2 hp0;have HC:=Q0 hC;have HR:=Q0 hR;have HP0:=Q0 hp0;have HC0:=Q0 hc0;clear hC hR hp0 hc0;clear hv hcp hpw;go_enter Tryz.func171,Tryz.ntmps171;go_wp2_with fail;refine(HC.out).mono ?_;rintro e w1 ⟨g,cp,rfl,hr,ho⟩;have HO:=Q0 ho;have HRR:=Q0 hr;clear ho hr;obtain⟨_,_,hvv,hcp,hm2,hcc⟩:=Row.rd (base:=w.heap.size) (l:=[p,q]) HRR.out;obtain⟨_,_,hg,hcell⟩:=hcc (by simp)
 cases hvv;cases hg;have c0:w1.cell? ⟨g,0,none⟩=some (S p):=by simpa using hcell 0 p rfl
 have c1:w1.cell? ⟨g,1,none⟩=some (S q):=by simpa using hcell 1 q rfl
 have d0:=HO.out.cellOf HC0.out (fun h=>h)
 clear hcell hcc hcp hm2;go_wp2_with fail;go_loopw [7,23,24] (fun s i _ wr=>∃(j:Nat)(A:B),j≤x.length∧i=.int .i64 j∧s=S A∧A.length≤1000000000∧Hid (Swapped x p q j A)∧Hid (Ext w1 wr)) (fun _ i _ _=>x.length-(intOf i).toNat)
 case atStart=>exact⟨0,[],Nat.zero_le _,rfl,rfl,by simp,Q0 (by unfold Swapped;simp),Q0 (Only.refl _ _)⟩
 case round=>
  obtain⟨j,A,hj,rfl,rfl,hA9,HA,HX⟩:=hrel;have f0:=HX.out.cellOf d0 (fun h=>h)
  have g0:=HX.out.cellOf c0 (fun h=>h)
  have g1:=HX.out.cellOf c1 (fun h=>h)
  by_cases hlt:j<x.length
  ·have hltz:(j:Int)<(x.length:Int):=by omega
   have hj0:(0:Int)≤(j:Int):=by omega
   obtain⟨c,hq⟩:∃y,x[j]?=some y:=⟨_,Q1 hlt⟩;have HHJ:=fun W=>HHS.out W j hj
   cases ho:Lib.occAt x p j with
   | true=>
    have hsw:=HA.out.hit HP0.out ho;have hle:=hsw.le;rw[←HR.out,List.length_append]at hle;have hroom:j+p.length≤x.length:=by
     rcases Lib.occAt_room ho with h'|h'
     ·exact h'
     ·exact absurd h' HP0.out
    rw[ho]at HHJ;have HJ:=Q0 HHJ;have q1:¬9223372036854775807<A.length+q.length:=by omega
    have hA8:(A++q).length≤1000000000:=by rw[List.length_append];omega
    have hba:=Z1e A q;have HS:=Q0 hsw;have HA8:=Q0 hA8;have HBA:=Q0 hba;clear hsw hA8 hba;clear HHJ hq ho hle;go_wp2_with fail;go_quiet ((go_at_call 223;exact Calls.quiet_of_same ((HJ.out _).mono fun _ _ h=>⟨h.1,h.2.symm⟩)))
    go_wp2_with fail;go_roundw
    case rel=>exact⟨j+p.length,A++q,hroom,by go_num,congrArg Value.string HBA.out,HA8.out,HS,Q0 (HX.out.thenDrewN _)⟩
    case measure=>simp[intOf];omega
   | false=>
    have hsw:=HA.out.miss HP0.out hq ho;have hle:=hsw.le;rw[←HR.out,List.length_append]at hle;rw[ho]at HHJ;have HJ:=Q0 HHJ;have q1:¬9223372036854775807<A.length+1:=by simp at hle;omega
    have hA8:(A++[c]).length≤1000000000:=by rw[List.length_append];omega
    have hmid:=Z5s x j (j+1);have hone:(x.take (j+1)).drop j=[c]:=by rw[List.take_add_one,hq,List.drop_append_of_le_length (by rw[List.length_take];omega),List.drop_take];simp
    rw[hone]at hmid;have hba:=Z1e A [c];have hj1:(j:Int)+1≤(x.length:Int):=by omega
    have hj2:(j:Int)≤(j:Int)+1:=by omega
    have HS:=Q0 hsw;have HA8:=Q0 hA8;have HBA:=Q0 hba;clear hsw hA8 hba;clear HHJ hq ho hle hone;go_wp2_with fail;go_quiet ((go_at_call 223;exact Calls.quiet_of_same ((HJ.out _).mono fun _ _ h=>⟨h.1,h.2.symm⟩)))
    go_wp2_with fail;go_roundw
    case rel=>exact⟨j+1,A++[c],by omega,by go_num,congrArg Value.string HBA.out,HA8.out,HS,Q0 (HX.out.thenDrewN _)⟩
    case measure=>simp[intOf];omega
  ·have hltz:¬(j:Int)<(x.length:Int):=by omega
   have hsw:=HA.out;unfold Swapped at hsw;rw[List.drop_of_length_le (by omega),Zdn HP0.out,List.append_nil,←HR.out]at hsw
   subst hsw;go_wp2_with fail;go_ret;exact⟨rfl,HO.out.then HX.out⟩
theorem Zox(w:World)(nm wd:B)(l:List B)(v:Value)(he:KdIs .sort nm)(hv:Rd S w v l)(hb:Z0h l+l.length≤900000)(hwd:wd=[]∨wd=[111,110,99,101]) :
  Calls Tryz.prog 171 #[S nm,S wd,v] w (RetE (S (Z05 (Z5u wd (allB l)))) w):=by
 obtain⟨e1,e2,e3,e4,e5,e6,e7,e8⟩:=he
 change _=false at e1;change _=false at e2;change _=false at e3;change _=true at e4;change _=false at e5;change _=false at e6;change _=false at e7;change _=false at e8
 have hE:∀j,(Z05 (allB (l.take j))).length≤900000:=fun j=>by
  have h2:=Z4d (l.take j);have h3:=Z6i l j;have h4:(l.take j).length≤l.length:=List.length_take_le' _ _;omega
 have hel:(Z05 (allB l)).length≤900000:=by have:=Z4d l;omega
 have HX:Hid (∀x∈l,x.length≤900000):=Q0 fun x h=>by have:=Zad h;omega
 have HL:=Q0 (fun W x (hx:x.length≤900000)=>Z4m W x hx)
 have HLAY:=Q0 (fun W b0 v acc s (hr:Row b0 W v acc) (h1:∃X,acc=Z0m X) (h2:acc.length≤900000)=>lay_any W b0 v acc s hr (by obtain⟨X,rfl⟩:=h1;exact Z3k X) h2)
 obtain⟨a,cap,rfl,hcap,hm,hc⟩:=hv;have hlm:(l.length:Int)≤900000:=by omega
 obtain⟨R,hR⟩:∃R,R=Z05 (Z5u wd (allB l)):=⟨_,rfl⟩;rw[←hR];have HC:=Q0 hc;have HE:=Q0 hE;have HR:=Q0 hR;have HEL:=Q0 hel;clear hc hE hR hel;clear hm hcap hb;go_enter Tryz.func171,Tryz.ntmps171;go_wp2_with fail;go_loopw [14,15,16,17] (fun acc i _ _ wr=>∃j:Nat,j≤l.length∧i=.int .i64 j∧Hid (Row w.heap.size wr acc (Z0m (allB (l.take j))))∧Hid (Ext w wr)) (fun _ i _ _ _=>l.length-(intOf i).toNat)
 case atStart=>exact⟨0,Nat.zero_le _,rfl,Q0 (by
  have:Z0m (allB (l.take 0))=[]:=by rw[List.take_zero];exact List.mergeSort_nil
  rw[this];exact Row.nil _ _),Q0 (Only.refl _ _)⟩
 case round=>
  obtain⟨j,hj,rfl,HROW,HXX⟩:=hrel;by_cases hlt:j<l.length
  ·have hltz:(j:Int)<(l.length:Int):=by omega
   have hj0:(0:Int)≤(j:Int):=by omega
   obtain⟨b0,off,rfl,hcell⟩:=HC.out (by intro h;rw[h]at hlt;simp at hlt)
   obtain⟨x,hx⟩:∃y,l[j]?=some y:=⟨_,Q1 hlt⟩;have d0:=HXX.out.cellOf (hcell j x hx) (fun h=>h)
   have hx9:=HX.out x (Q4 hx);have hst:=Zf1 hx;have hen:=HE.out (j+1);rw[hst]at hen;have HLL:=Q0 (HL.out wr x hx9);generalize Z0t x=L at *;obtain⟨Y,hY⟩:∃Y,Y=allB (l.take j):=⟨_,rfl⟩;rw[←hY]at hst hen HROW;have hLz:L.length≤900000:=by have h1:=Z2m (Y++L);rw[List.length_append]at h1;omega
   have HST:=Q0 hst;have HEN:=Q0 hen;clear hst hen;clear hcell hx hY;go_wp2_with fail;refine(HLL.out).mono ?_;rintro e w2 ⟨vL,rfl,ho,hr⟩;have HX2:=Q0 (HXX.out.then ho);have HRR:=Q0 hr;have HROW2:=Q0 (HROW.out.ext ho);clear hr ho;obtain⟨aL,cL,rfl,hcapL,hmL,hcL⟩:=HRR.out;have HCL:=Q0 hcL;clear hcL;go_wp2_with fail;go_loopw [14,17] (fun acc k wq=>∃i:Nat,i≤L.length∧k=.int .i64 i∧Hid (Row w.heap.size wq acc (Z0m (Y++L.take i)))∧Hid (Ext w2 wq)) (fun _ k _=>L.length-(intOf k).toNat)
   case atStart=>exact⟨0,Nat.zero_le _,rfl,Q0 (by rw[List.take_zero,List.append_nil];exact HROW2.out),Q0 (Only.refl _ _)⟩
   case round=>
    clear HROW HROW2;obtain⟨i,hi,rfl,HROW,HXW⟩:=hrel;by_cases hlt2:i<L.length
    ·have hlt2z:(i:Int)<(L.length:Int):=by omega
     have hi0:(0:Int)≤(i:Int):=by omega
     obtain⟨bL,oL,rfl,hcell⟩:=HCL.out (by intro h;rw[h]at hlt2;simp at hlt2)
     obtain⟨y,hy⟩:∃y,L[i]?=some y:=⟨_,Q1 hlt2⟩;have d1:=HXW.out.cellOf (hcell i y hy) (fun h=>h)
     have hlen:(Z0m (Y++L.take i)).length≤900000:=by
      rw[Z5v];have h1:=Z2m (Y++L);have h2:=HEN.out;have h3:(L.take i).length≤L.length:=List.length_take_le' _ _;rw[List.length_append]at h1 ⊢;omega
     have hlay:=HLAY.out wr w.heap.size _ _ y HROW.out ⟨_,rfl⟩ hlen;rw[sort_lay,List.append_assoc,show L.take i++[y]=L.take (i+1) by rw[List.take_add_one,hy];rfl]at hlay
     obtain⟨va,hva⟩:∃va:Value,∃_:True,va=va:=⟨.nilIface,trivial,rfl⟩;clear hva va;have HLY:=Q0 hlay;clear hlay;clear hcell hy hlen;rcases HROW.out.cases with⟨rfl,hnil⟩|⟨ga,capa,rfl⟩
     ·clear hnil
      go_wp2_with fail;refine(HLY.out).mono ?_
      rintro e w4 ⟨v4,rfl,ho,hr⟩;have HX4:=Q0 (HXW.out.then ho);have HR4:=Q0 (hr.down (HX2.out.then HXW.out).size);clear ho hr;obtain⟨a4,c4,rfl,_,_,_⟩:=HR4.out.rd;go_wp2_with fail;go_roundw
      case rel=>exact⟨i+1,by omega,by go_num,HR4,HX4⟩
      case measure=>simp[intOf];omega
     ·go_wp2_with fail
      refine(HLY.out).mono ?_;rintro e w4 ⟨v4,rfl,ho,hr⟩;have HX4:=Q0 (HXW.out.then ho);have HR4:=Q0 (hr.down (HX2.out.then HXW.out).size);clear ho hr;obtain⟨a4,c4,rfl,_,_,_⟩:=HR4.out.rd;go_wp2_with fail;go_roundw
      case rel=>exact⟨i+1,by omega,by go_num,HR4,HX4⟩
      case measure=>simp[intOf];omega
    ·have hlt2z:¬(i:Int)<(L.length:Int):=by omega
     have ht:L.take i=L:=List.take_of_length_le (by omega)
     rw[ht,←HST.out]at HROW;have HX5:=Q0 (HX2.out.then HXW.out);obtain⟨a4,c4,rfl,_,_,_⟩:=HROW.out.rd;go_wp2_with fail;go_roundw
     case rel=>exact⟨j+1,by omega,by go_num,HROW,HX5⟩
     case measure=>simp[intOf];omega
  ·have hltz:¬(j:Int)<(l.length:Int):=by omega
   have ht:l.take j=l:=List.take_of_length_le (by omega)
   rw[ht]at HROW;have hR:=HR.out;have hlen:(Z05 (Z0m (allB l))).length≤900000:=by have h1:(Z05 (Z0m (allB l))).length=(Z05 (allB l)).length:=Zd3 (List.mergeSort_perm _ _);have:=HEL.out;omega
   have hln:=Z2m (Z0m (allB l));unfold Z5u at hR;generalize Z0m (allB l)=T at *;obtain⟨aT,cT,rfl,hcapT,hmT,hcT⟩:=HROW.out.rd;have hTl:(T.length:Int)≤900000:=by omega
   have HLT:Hid (∀k,(Z05 (T.take k)).length≤900000):=Q0 fun k=>by have:=Z2n (List.take_sublist k T);omega
   have HLC:Hid (∀k,k≤T.length→(Z05 (Z7h T k)).length≤900000):=Q0 fun k hk=>by
    have h1:(Z7h T k).Sublist T:=((Zb9 T k T.length hk).sublist).trans (Zkf T ▸ Z6b T);have:=Z2n h1;omega
   have HCT:=Q0 hcT;clear hcT;clear hlen hln ht HE HL HLAY HEL HC HX hlt hj;rcases hwd with rfl|rfl
   ·rw[if_neg (by decide)]at hR
    have HRR:=Q0 hR;clear hR;go_wp2_with fail;go_loopw [7,18] (fun s i wq=>∃(k:Nat)(A:B),k≤T.length∧i=.int .i64 k∧s=S A∧A.length≤900000∧Hid (A=Z05 (T.take k))∧Hid (Ext wr wq)) (fun _ i _=>T.length-(intOf i).toNat)
    case atStart=>exact⟨0,[],Nat.zero_le _,rfl,rfl,by simp,Q0 (by simp[Z05]),Q0 (Only.refl _ _)⟩
    case round=>
     obtain⟨k,A,hk,rfl,rfl,hA9,HA,HXW⟩:=hrel;by_cases hlt:k<T.length
     ·have hltz:(k:Int)<(T.length:Int):=by omega
      have hk0:(0:Int)≤(k:Int):=by omega
      obtain⟨bT,oT,rfl,hcell⟩:=HCT.out (by intro h;rw[h]at hlt;simp at hlt)
      obtain⟨y,hy⟩:∃y,T[k]?=some y:=⟨_,Q1 hlt⟩;have d1:=HXW.out.cellOf (hcell k y hy) (fun h=>h)
      have d2:=fun m=>(HXW.out.thenDrewN m).cellOf (hcell k y hy) (fun h=>h)
      have hst:=Z92 hy;rw[←HA.out]at hst;have hb9:=HLT.out (k+1);rw[hst]at hb9;have hba:(⟨A.toArray⟩:ByteArray)++⟨y.toArray⟩++⟨#[10]⟩=⟨(A++(y++[10])).toArray⟩:=by rw[Z1e A y,Zpz,List.append_assoc]
      have hyl:A.length+y.length+1≤900000:=by simp at hb9;omega
      have q1:¬9223372036854775807<A.length+y.length:=by omega
      have q2:¬9223372036854775807<A.length+y.length+1:=by omega
      have HBA:=Q0 hba;have HSS:=Q0 hst;have HB9:=Q0 hb9;clear hba hst hb9;clear hcell hy d1;go_wp2_with fail;go_quiet (fail);go_wp2_with fail;go_roundw
      case rel=>exact⟨k+1,A++(y++[10]),by omega,by go_num,congrArg Value.string HBA.out,HB9.out,Q0 HSS.out.symm,Q0 (HXW.out.thenDrewN _)⟩
      case measure=>simp[intOf];omega
     ·have hltz:¬(k:Int)<(T.length:Int):=by omega
      have ht:T.take k=T:=List.take_of_length_le (by omega)
      rw[ht,←HRR.out]at HA;go_wp2_with fail;go_ret;exact⟨by rw[HA.out];rfl,HXX.out.then HXW.out⟩
   ·rw[if_pos rfl]at hR
    have hw1:(([111,110,99,101]:B)==[])=false:=by decide
    have HRR:=Q0 hR;clear hR;generalize ([111,110,99,101]:B)=wd at *;go_wp2_with fail;go_loopw [7,18] (fun s i wq=>∃(k:Nat)(A:B),k≤T.length∧i=.int .i64 k∧s=S A∧A.length≤900000∧Hid (A=Z05 (Z7h T k))∧Hid (Ext wr wq)) (fun _ i _=>T.length-(intOf i).toNat)
    case atStart=>exact⟨0,[],Nat.zero_le _,rfl,rfl,by simp,Q0 (by rw[Zp5];simp[Z05]),Q0 (Only.refl _ _)⟩
    case round=>
     obtain⟨k,A,hk,rfl,rfl,hA9,HA,HXW⟩:=hrel;by_cases hlt:k<T.length
     ·have hltz:(k:Int)<(T.length:Int):=by omega
      have hk0:(0:Int)≤(k:Int):=by omega
      obtain⟨bT,oT,rfl,hcell⟩:=HCT.out (by intro h;rw[h]at hlt;simp at hlt)
      obtain⟨y,hy⟩:∃y,T[k]?=some y:=⟨_,Q1 hlt⟩;by_cases hold:∃k',k=k'+1∧T[k']?=some y
      ·obtain⟨k',hkk,hy'⟩:=hold
       have d1:=HXW.out.cellOf (hcell k y hy) (fun h=>h)
       have d2:=HXW.out.cellOf (hcell k' y hy') (fun h=>h)
       have HKO:=Q0 (kept_old (hkk ▸ hy) hy');have hwk:IntKind.i64.wrap ((k:Int)-1)=(k':Int):=by rw[show (k:Int)-1=(k':Int) by omega];exact IntWalk.i64_in _ (by omega)
       have hk1:(0:Int)≤(k':Int):=by omega
       have hk2:(k':Int)<(T.length:Int):=by omega
       have hkz:((k:Int)==0)=false:=Q3 (by omega)
       have hyy:(y==y)=true:=by simp
       have HKK:=Q0 hkk;clear hcell hy hy' hkk;go_wp2_with fail;go_quiet (fail);clear hwk;go_wp2_with fail;go_roundw
       case rel=>exact⟨k+1,A,by omega,by go_num,rfl,hA9,Q0 (by rw[HA.out,HKK.out,HKO.out]),Q0 (HXW.out.thenDrewN _)⟩
       case measure=>simp[intOf];omega
      ·have hnew:∀k' z,k=k'+1→T[k']?=some z→y≠z:=fun k' z e1 e2 e3=>hold ⟨k',e1,by rw[e3];exact e2⟩
       have hst:Z05 (Z7h T (k+1))=A++(y++[10]):=by rw[kept_new hy hnew,Zbh,HA.out];simp[Z05]
       have hb9:=HLC.out (k+1) hlt;rw[hst]at hb9;have hba:(⟨A.toArray⟩:ByteArray)++⟨y.toArray⟩++⟨#[10]⟩=⟨(A++(y++[10])).toArray⟩:=by rw[Z1e A y,Zpz,List.append_assoc]
       have hyl:A.length+y.length+1≤900000:=by simp at hb9;omega
       have q1:¬9223372036854775807<A.length+y.length:=by omega
       have q2:¬9223372036854775807<A.length+y.length+1:=by omega
       have HBA:=Q0 hba;have HSS:=Q0 hst;have HB9:=Q0 hb9;clear hba hst hb9;have d1:=HXW.out.cellOf (hcell k y hy) (fun h=>h)
       by_cases h0:k=0
       ·have d2:=fun m=>(HXW.out.thenDrewN m).cellOf (hcell k y hy) (fun h=>h)
        have hkz:((k:Int)==0)=true:=beq_iff_eq.2 (by omega)
        clear hcell hy d1 hnew hold h0;go_wp2_with fail;go_quiet (fail);go_wp2_with fail;go_roundw
        case rel=>exact⟨k+1,A++(y++[10]),by omega,by go_num,congrArg Value.string HBA.out,HB9.out,Q0 HSS.out.symm,Q0 (HXW.out.thenDrewN _)⟩
        case measure=>simp[intOf];omega
       ·obtain⟨k',hkk⟩:∃k',k=k'+1:=⟨k-1,by omega⟩
        obtain⟨z,hz⟩:∃z,T[k']?=some z:=⟨_,Q1 (by omega)⟩
        have d2:=HXW.out.cellOf (hcell k' z hz) (fun h=>h)
        have d3:=fun m=>(HXW.out.thenDrewN m).cellOf (hcell k y hy) (fun h=>h)
        have hne:(y==z)=false:=Q3 (hnew k' z hkk hz)
        have hwk:IntKind.i64.wrap ((k:Int)-1)=(k':Int):=by rw[show (k:Int)-1=(k':Int) by omega];exact IntWalk.i64_in _ (by omega)
        have hk1:(0:Int)≤(k':Int):=by omega
        have hk2:(k':Int)<(T.length:Int):=by omega
        have hkz:((k:Int)==0)=false:=Q3 (by omega)
        clear hcell hy hz hkk hnew hold h0;go_wp2_with fail;go_quiet (fail);clear hwk;go_wp2_with fail;go_roundw
        case rel=>exact⟨k+1,A++(y++[10]),by omega,by go_num,congrArg Value.string HBA.out,HB9.out,Q0 HSS.out.symm,Q0 (HXW.out.thenDrewN _)⟩
        case measure=>simp[intOf];omega
     ·have hltz:¬(k:Int)<(T.length:Int):=by omega
      obtain rfl:k=T.length:=by omega
      rw[Zkf,←HRR.out]at HA;go_wp2_with fail;go_ret;exact⟨by rw[HA.out];rfl,HXX.out.then HXW.out⟩
end Go.Proofs.YtnmhaipjfpongacGreatDoor
