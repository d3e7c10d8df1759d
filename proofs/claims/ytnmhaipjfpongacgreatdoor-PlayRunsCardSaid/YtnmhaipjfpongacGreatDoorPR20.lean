/- A part of this claim's proof;each theorem bears its own conditions. -/
import Derived.Test.YtnmhaipjfpongacGreatDoorPR13
set_option maxRecDepth 100000
set_option maxHeartbeats 2000000
namespace Go.Proofs.YtnmhaipjfpongacGreatDoor
open Go.ChangeShapes Go.WideShapes Go.ChangeAt Go.RowKit
def KdIs(k:Kd)(nm:B):Prop:=(nm==[104,101,97,100])=Kd.isN 0 k∧(nm==[115,119,97,112])=Kd.isN 1 k∧(nm==[99,111,117,110,116])=Kd.isN 2 k∧(nm==[115,111,114,116])=Kd.isN 3 k∧
 (nm==[108,105,110,101,115])=Kd.isN 4 k∧(nm==[117,112,112,101,114])=Kd.isN 5 k∧(nm==[106,111,105,110])=Kd.isN 6 k∧(nm==[119,114,105,116,101])=Kd.isN 7 k
theorem kdIs(k:Kd):KdIs k k.name:=by cases k <;> exact⟨rfl,rfl,rfl,rfl,rfl,rfl,rfl,rfl⟩
theorem Zcz(x:B)(r:List B)(d:B):Lib.join ((x :: r).take 1) d=x:=by rw[List.take_succ_cons,List.take_zero,Lib.join_one]
theorem Zgn{l:List B}{j:Nat}{y:B}(d:B)(hj:1≤j)(h:l[j]?=some y):Lib.join (l.take (j+1)) d=Lib.join (l.take j) d++d++y:=by
 cases l with
 | nil=>simp at h
 | cons x r=>
  obtain⟨k,rfl⟩:∃k,j=k+1:=⟨j-1,by omega⟩
  rw[List.take_succ_cons,List.take_succ_cons,Lib.join_cons,Lib.join_cons,Lib.joinTail_take_succ d r k y (by simpa using h)]
  simp
theorem Z9m(l:List B)(d:B)(j:Nat):(Lib.join (l.take j) d).length≤Z0h l+l.length*d.length:=by
 have h1:=Ziy d (l.take j);have h2:=Z6i l j;have h3:(l.take j).length*d.length≤l.length*d.length:=Nat.mul_le_mul_right _ (List.length_take_le' _ _);omega
theorem Zoy(w:World)(nm wd:B)(l:List B)(v:Value)(he:KdIs .join nm)(hv:Rd S w v l)(hl:1≤l.length)(hb:Z0h l+l.length≤900000)(hw:wd.length≤1000) :
  Calls Tryz.prog 171 #[S nm,S wd,v] w (RetE (S (Lib.join l wd)) w):=by
 obtain⟨e1,e2,e3,e4,e5,e6,e7,e8⟩:=he
 change _=false at e1;change _=false at e2;change _=false at e3;change _=false at e4;change _=false at e5;change _=false at e6;change _=true at e7;change _=false at e8
 have hj9:=fun j=>Z9m l wd j
 have hm9:l.length*wd.length≤900000*1000:=Nat.mul_le_mul (by omega) hw
 have HX:Hid (∀x∈l,x.length≤900000):=Q0 fun x h=>by have:=Zad h;omega
 have HB:Hid (∀j,(Lib.join (l.take j) wd).length≤901000000):=Q0 fun j=>by have:=hj9 j;omega
 obtain⟨x,r,rfl⟩:∃x r,l=x :: r:=by cases l with
  | nil=>simp at hl
  | cons x r=>exact⟨x,r,rfl⟩
 obtain⟨a,cap,rfl,hcap,hm,hc⟩:=hv;obtain⟨b,off,rfl,hcell⟩:=hc (by simp)
 have hc0:w.cell? ⟨b,off,none⟩=some (S x):=by simpa using hcell 0 x rfl
 have HC:=Q0 hcell;have HF:=Q0 (Zcz x r wd);have HST:=Q0 (fun j y (h1:1≤j) h=>Zgn (l:=x :: r) (j:=j) (y:=y) wd h1 h)
 have hx0:=HX.out x (.head _);have hlz:(0:Int)<((x :: r:List B).length:Int):=by simp
 have hl9:((x :: r:List B).length:Int)≤900000:=by omega
 obtain⟨T,hT⟩:∃T,T=Lib.join (x :: r) wd:=⟨_,rfl⟩;rw[←hT];have HT:=Q0 hT;clear hc hcell hm hcap hj9 hm9 hb hl hT;generalize (x :: r:List B)=l at *;go_enter Tryz.func171,Tryz.ntmps171;go_wp2_with fail;go_loop [7,8] (fun s i=>∃(j:Nat)(A:B),1≤j∧j≤l.length∧i=.int .i64 j∧s=S A∧A.length≤901000000∧Hid (A=Lib.join (l.take j) wd)) (fun _ i=>l.length-(intOf i).toNat)
 case atStart=>exact⟨1,x,Nat.le_refl _,by omega,rfl,rfl,by omega,Q0 HF.out.symm⟩
 case round=>
  obtain⟨j,A,hj1,hj,rfl,rfl,hA9,HA⟩:=hrel;by_cases hlt:j<l.length
  ·have hltz:(j:Int)<(l.length:Int):=by omega
   have hj0:(0:Int)≤(j:Int):=by omega
   obtain⟨y,hq⟩:∃y,l[j]?=some y:=⟨_,Q1 hlt⟩;have d0:=HC.out j y hq;have hy9:=HX.out y (Q4 hq);have hst:=HST.out j y hj1 hq;rw[←HA.out]at hst;have hb9:=HB.out (j+1);rw[hst]at hb9;have hba:(⟨A.toArray⟩:ByteArray)++⟨wd.toArray⟩++⟨y.toArray⟩=⟨(A++wd++y).toArray⟩:=by rw[Z1e,Z1e]
   have q1:¬9223372036854775807<A.length+wd.length:=by omega
   have q2:¬9223372036854775807<A.length+wd.length+y.length:=by omega
   have HBA:=Q0 hba;have HSS:=Q0 hst;have HB9:=Q0 hb9;clear hq hst hba hb9;go_wp2_with fail;go_round
   case rel=>exact⟨j+1,A++wd++y,by omega,by omega,by go_num,congrArg Value.string HBA.out,HB9.out,Q0 HSS.out.symm⟩
   case measure=>simp[intOf];omega
  ·have hltz:¬(j:Int)<(l.length:Int):=by omega
   have ht:l.take j=l:=List.take_of_length_le (by omega)
   rw[ht,←HT.out]at HA;go_wp2_with fail;go_ret;exact⟨by rw[HA.out];rfl,Only.refl _ _⟩
theorem byte_up(c:UInt8):(if 97≤c.toNat∧c.toNat≤122 then UInt8.ofNat (c.toNat-32)else UInt8.ofNat c.toNat)=upB c:=by
 unfold upB;split
 ·rename_i h
  apply UInt8.toNat_inj.1
  simp[UInt8.toNat_add,UInt8.toNat_sub]
  omega
 ·simp
theorem map_step{f:UInt8→UInt8}{x:B}{j:Nat}{c:UInt8}(h:x[j]?=some c):(x.take (j+1)).map f=(x.take j).map f++[f c]:=by rw[List.take_add_one,h];simp
theorem Zmc(w:World)(nm wd x:B)(r:List B)(v:Value)(he:KdIs .upper nm)(hv:Rd S w v (x :: r))(hx:x.length≤900000) :
  Calls Tryz.prog 171 #[S nm,S wd,v] w (RetE (S (x.map upB)) w):=by
 obtain⟨e1,e2,e3,e4,e5,e6,e7,e8⟩:=he
 change _=false at e1;change _=false at e2;change _=false at e3;change _=false at e4;change _=false at e5;change _=true at e6;change _=false at e7;change _=false at e8
 obtain⟨b,off,cap,rfl,hc0,hln⟩:=Z5x hv;have hlz:(0:Int)<((r.length+1:Nat):Int):=by omega
 have HBY:=Q0 (fun W n (hn:n<256)=>Zev W n hn)
 have HC:=Q0 hc0;have HUP:=Q0 byte_up;clear hv hc0;go_enter Tryz.func171,Tryz.ntmps171;go_wp2_with fail;go_loopw [7,9,10] (fun s i _ wr=>∃(j:Nat)(A:B),j≤x.length∧i=.int .i64 j∧s=S A∧A.length≤900000∧Hid (A=(x.take j).map upB)∧Hid (Ext w wr)) (fun _ i _ _=>x.length-(intOf i).toNat)
 case atStart=>exact⟨0,[],Nat.zero_le _,rfl,rfl,by simp,Q0 (by simp),Q0 (Only.refl _ _)⟩
 case round=>
  obtain⟨j,A,hj,rfl,rfl,hA9,HA,HX⟩:=hrel;have d0:=HX.out.cellOf HC.out (fun h=>h)
  by_cases hlt:j<x.length
  ·have hltz:(j:Int)<(x.length:Int):=by omega
   have hj0:(0:Int)≤(j:Int):=by omega
   obtain⟨c,hq⟩:∃y,x[j]?=some y:=⟨_,Q1 hlt⟩;have hg:=Z3x hq;have hst:=map_step (f:=upB) hq;rw[←HA.out]at hst;have hup:=HUP.out c;have hlen:=congrArg List.length hst;rw[List.length_map,List.length_take,List.length_append,List.length_singleton]at hlen;have q1:¬9223372036854775807<A.length+1:=by omega
   have hA8:A.length+1≤900000:=by omega
   have HSS:=Q0 hst;have HBA:=Q0 (fun u:UInt8=>Z1e A [u])
   have hc8:=c.toNat_lt;by_cases h1:97≤c.toNat∧c.toNat≤122
   ·rw[if_pos h1]at hup
    obtain⟨h1,h2⟩:=h1;have h1z:(97:Int)≤(c.toNat:Int):=by omega
    have h2z:(c.toNat:Int)≤122:=by omega
    obtain⟨n,hn⟩:∃n:Nat,n=c.toNat-32:=⟨_,rfl⟩;have hnz:(c.toNat:Int)-32=(n:Int):=by omega
    have hn8:n<256:=by omega
    rw[←hn]at hup;have HU:=Q0 hup;have HB1:=Q0 (fun W=>HBY.out W n hn8)
    clear hq hst hup hlen hn;go_wp2_with fail;refine(HB1.out _).mono ?_;rintro e w2 ⟨rfl,ho⟩;have HX2:=Q0 (HX.out.then ho);clear ho;go_wp2_with fail;go_roundw
    case rel=>exact⟨j+1,A++[UInt8.ofNat n],by omega,by go_num,congrArg Value.string (HBA.out _),by simpa using hA8,Q0 (by rw[HSS.out,HU.out]),HX2⟩
    case measure=>simp[intOf];omega
   ·rw[if_neg h1]at hup
    rw[UInt8.ofNat_toNat]at hup;have HU:=Q0 hup;have hby:=fun W=>HBY.out W c.toNat hc8
    rw[UInt8.ofNat_toNat]at hby;have HB1:=Q0 hby;clear hby;by_cases h2:97≤c.toNat
    ·have h1z:(97:Int)≤(c.toNat:Int):=by omega
     have h2z:¬(c.toNat:Int)≤122:=by omega
     clear hq hst hup hlen h1;go_wp2_with fail;refine(HB1.out _).mono ?_;rintro e w2 ⟨rfl,ho⟩;have HX2:=Q0 (HX.out.then ho);clear ho;go_wp2_with fail;go_roundw
     case rel=>exact⟨j+1,A++[c],by omega,by go_num,congrArg Value.string (HBA.out _),by simpa using hA8,Q0 (by rw[HSS.out,←HU.out]),HX2⟩
     case measure=>simp[intOf];omega
    ·have h1z:¬(97:Int)≤(c.toNat:Int):=by omega
     clear hq hst hup hlen h1;go_wp2_with fail;refine(HB1.out _).mono ?_;rintro e w2 ⟨rfl,ho⟩;have HX2:=Q0 (HX.out.then ho);clear ho;go_wp2_with fail;go_roundw
     case rel=>exact⟨j+1,A++[c],by omega,by go_num,congrArg Value.string (HBA.out _),by simpa using hA8,Q0 (by rw[HSS.out,←HU.out]),HX2⟩
     case measure=>simp[intOf];omega
  ·have hltz:¬(j:Int)<(x.length:Int):=by omega
   have ht:x.take j=x:=List.take_of_length_le (by omega)
   rw[ht]at HA;go_wp2_with fail;go_ret;exact⟨by rw[HA.out];rfl,HX.out⟩
theorem Zj5{p:B→Bool}{l:List B}{j:Nat}{x:B}(h:l[j]?=some x):Z05 ((l.take (j+1)).filter p)=Z05 ((l.take j).filter p)++(if p x then x++[10]else []):=by
 rw[List.take_add_one,h,Option.toList_some,List.filter_append,Zbh];by_cases hp:p x=true
 ·simp[List.filter,hp,Z05]
 ·simp[List.filter,hp,Z05]
theorem Zmd(w:World)(nm wd x:B)(r:List B)(v:Value)(he:KdIs .lines nm)(hv:Rd S w v (x :: r))(hx:x.length≤900000)(hw:wd.length≤1000) :
  Calls Tryz.prog 171 #[S nm,S wd,v] w (RetE (S (Z05 ((Z0t x).filter (hasB wd)))) w):=by
 obtain⟨e1,e2,e3,e4,e5,e6,e7,e8⟩:=he
 change _=false at e1;change _=false at e2;change _=false at e3;change _=false at e4;change _=true at e5;change _=false at e6;change _=false at e7;change _=false at e8
 obtain⟨b,off,cap,rfl,hc0,hln⟩:=Z5x hv;have hlz:(0:Int)<((r.length+1:Nat):Int):=by omega
 have HL:=Q0 (Z4m w x hx);have hel:(Z05 (Z0t x)).length≤900001:=by have:=Z4c x;omega
 have hll:(Z0t x).length≤900001:=by have:=Z2m (Z0t x);omega
 generalize Z0t x=L at *;have HB:Hid (∀j,(Z05 ((L.take j).filter (hasB wd))).length≤900001):=Q0 fun j=>by
  have h1:=Z2n ((List.filter_sublist (l:=L.take j) (p:=hasB wd)).trans (List.take_sublist j L));omega
 have HXL:Hid (∀y∈L,y.length≤900001):=Q0 fun y hy=>by have:=Zbg hy;omega
 have HIN:=Q0 (fun W y (hy:y.length≤900001)=>in_any W y wd (by omega) (by omega))
 obtain⟨T,hT⟩:∃T,T=Z05 (L.filter (hasB wd)):=⟨_,rfl⟩;rw[←hT];have HT:=Q0 hT;clear hT;clear hv hel;go_enter Tryz.func171,Tryz.ntmps171;go_wp2_with fail;refine(HL.out).mono ?_;rintro e w1 ⟨vL,rfl,ho,hr⟩;have HO:=Q0 ho;have HR:=Q0 hr;clear ho hr;obtain⟨a1,c1,rfl,hcap1,hm1,hcc⟩:=HR.out;have HC:=Q0 hcc;clear hcc;go_wp2_with fail;go_loop [7,12,13] (fun s i _=>∃(j:Nat)(A:B),j≤L.length∧i=.int .i64 j∧s=S A∧A.length≤900001∧Hid (A=Z05 ((L.take j).filter (hasB wd)))) (fun _ i _=>L.length-(intOf i).toNat)
 case atStart=>exact⟨0,[],Nat.zero_le _,rfl,rfl,by simp,Q0 (by simp[Z05])⟩
 case round=>
  obtain⟨j,A,hj,rfl,rfl,hA9,HA⟩:=hrel;by_cases hlt:j<L.length
  ·have hltz:(j:Int)<(L.length:Int):=by omega
   have hj0:(0:Int)≤(j:Int):=by omega
   obtain⟨bL,oL,rfl,hcell⟩:=HC.out (by intro h;rw[h]at hlt;simp at hlt)
   obtain⟨y,hq⟩:∃y,L[j]?=some y:=⟨_,Q1 hlt⟩;have d0:=hcell j y hq;have hy9:=HXL.out y (Q4 hq);have HI:=Q0 (HIN.out w1 y hy9);have hst:=Zj5 (p:=hasB wd) hq;rw[←HA.out]at hst;have hb9:=HB.out (j+1);rw[hst]at hb9;cases hp:hasB wd y with
   | true=>
    rw[hp,if_pos rfl]at hst hb9;rw[hp]at HI;have hba:(⟨A.toArray⟩:ByteArray)++⟨y.toArray⟩++⟨#[10]⟩=⟨(A++(y++[10])).toArray⟩:=by rw[Z1e A y,Zpz,List.append_assoc]
    have q1:¬9223372036854775807<A.length+y.length:=by omega
    have q2:¬9223372036854775807<A.length+y.length+1:=by omega
    have HBA:=Q0 hba;have HSS:=Q0 hst;have HB9:=Q0 hb9;clear hba hst hb9;clear hcell hq hp;go_wp2_with fail;refine(HI.out).mono ?_;rintro e w2 ⟨rfl,rfl⟩;go_wp2_with fail;go_round
    case rel=>exact⟨j+1,A++(y++[10]),by omega,by go_num,congrArg Value.string HBA.out,HB9.out,Q0 HSS.out.symm⟩
    case measure=>simp[intOf];omega
   | false=>
    rw[hp]at HI hst;rw[if_neg (by decide),List.append_nil]at hst
    have HSS:=Q0 hst;clear hst;clear hcell hq hp hb9;go_wp2_with fail;refine(HI.out).mono ?_;rintro e w2 ⟨rfl,rfl⟩;go_wp2_with fail;go_round
    case rel=>exact⟨j+1,A,by omega,by go_num,rfl,hA9,Q0 HSS.out.symm⟩
    case measure=>simp[intOf];omega
  ·have hltz:¬(j:Int)<(L.length:Int):=by omega
   have ht:L.take j=L:=List.take_of_length_le (by omega)
   rw[ht,←HT.out]at HA;go_wp2_with fail;go_ret;exact⟨by rw[HA.out];rfl,HO.out⟩
theorem Zoz(w:World)(nm wd x:B)(r:List B)(v:Value)(n:Nat)(he:KdIs .head nm)(hv:Rd S w v (x :: r))(hx:x.length≤900000)(hw:wd.length≤1000)(hn:numB 3 wd=some n) :
  Calls Tryz.prog 171 #[S nm,S wd,v] w (RetE (S (Z05 ((Z0t x).take n))) w):=by
 obtain⟨e1,e2,e3,e4,e5,e6,e7,e8⟩:=he
 change _=true at e1;change _=false at e2;change _=false at e3;change _=false at e4;change _=false at e5;change _=false at e6;change _=false at e7;change _=false at e8
 obtain⟨b,off,cap,rfl,hc0,hln⟩:=Z5x hv;have hlz:(0:Int)<((r.length+1:Nat):Int):=by omega
 have HL:=Q0 (Z4m w x hx);have hel:(Z05 (Z0t x)).length≤900001:=by have:=Z4c x;omega
 have hll:(Z0t x).length≤900001:=by have:=Z2m (Z0t x);omega
 generalize Z0t x=L at *;have HB:Hid (∀j,(Z05 (L.take j)).length≤900001):=Q0 fun j=>by
  have h1:=Z2n (List.take_sublist j L);omega
 have hnu:numI 3 wd=(n:Int):=by unfold numI;rw[hn]
 have hN:=fun W=>Z9h W wd 3 (by decide) (by omega)
 rw[hnu]at hN;have HN:=Q0 hN;obtain⟨T,hT⟩:∃T,T=Z05 (L.take n):=⟨_,rfl⟩;rw[←hT];have HT:=Q0 hT;clear hT;clear hv hel hnu hn hN;go_enter Tryz.func171,Tryz.ntmps171;go_wp2_with fail;refine(HL.out).mono ?_;rintro e w1 ⟨vL,rfl,ho,hr⟩;have HO:=Q0 ho;have HR:=Q0 hr;clear ho hr;obtain⟨a1,c1,rfl,hcap1,hm1,hcc⟩:=HR.out;have HC:=Q0 hcc;clear hcc;go_wp2_with fail;go_loop [7,26] (fun s i=>∃(j:Nat)(A:B),j≤L.length∧j≤n∧i=.int .i64 j∧s=S A∧A.length≤900001∧Hid (A=Z05 (L.take j))) (fun _ i=>L.length-(intOf i).toNat)
 case atStart=>exact⟨0,[],Nat.zero_le _,Nat.zero_le _,rfl,rfl,by simp,Q0 (by simp[Z05])⟩
 case round=>
  obtain⟨j,A,hj,hjn,rfl,rfl,hA9,HA⟩:=hrel;by_cases hlt:j<L.length
  ·have hltz:(j:Int)<(L.length:Int):=by omega
   have hj0:(0:Int)≤(j:Int):=by omega
   by_cases hl2:j<n
   ·have hl2z:(j:Int)<(n:Int):=by omega
    obtain⟨bL,oL,rfl,hcell⟩:=HC.out (by intro h;rw[h]at hlt;simp at hlt)
    obtain⟨y,hq⟩:∃y,L[j]?=some y:=⟨_,Q1 hlt⟩;have d0:=hcell j y hq;have hst:=Z92 hq;rw[←HA.out]at hst;have hb9:=HB.out (j+1);rw[hst]at hb9;have hba:(⟨A.toArray⟩:ByteArray)++⟨y.toArray⟩++⟨#[10]⟩=⟨(A++(y++[10])).toArray⟩:=by rw[Z1e A y,Zpz,List.append_assoc]
    have hyl:A.length+y.length+1≤900001:=by simp at hb9;omega
    have q1:¬9223372036854775807<A.length+y.length:=by omega
    have q2:¬9223372036854775807<A.length+y.length+1:=by omega
    have HBA:=Q0 hba;have HSS:=Q0 hst;have HB9:=Q0 hb9;clear hba hst hb9;clear hcell hq;go_wp2_with fail;refine(HN.out w1).mono ?_;rintro e w2 ⟨rfl,rfl⟩;go_wp2_with fail;go_round
    case rel=>exact⟨j+1,A++(y++[10]),by omega,by omega,by go_num,congrArg Value.string HBA.out,HB9.out,Q0 HSS.out.symm⟩
    case measure=>simp[intOf];omega
   ·obtain rfl:j=n:=by omega
    have hl2z:¬(j:Int)<(j:Int):=by omega
    rw[←HT.out]at HA;go_wp2_with fail;refine(HN.out w1).mono ?_;rintro e w2 ⟨rfl,rfl⟩;go_wp2_with fail;go_ret;exact⟨by rw[HA.out];rfl,HO.out⟩
  ·have hltz:¬(j:Int)<(L.length:Int):=by omega
   have ht:L.take j=L.take n:=by rw[List.take_of_length_le (by omega),List.take_of_length_le (by omega)]
   rw[ht,←HT.out]at HA;go_wp2_with fail;go_ret;exact⟨by rw[HA.out];rfl,HO.out⟩
end Go.Proofs.YtnmhaipjfpongacGreatDoor
