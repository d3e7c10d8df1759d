/- A part of this claim's proof;each theorem bears its own conditions. -/
import Derived.Deep.DeepCutAuto
import Derived.Test.YtnmhaipjfpongacGreatDoorPR12
set_option maxRecDepth 100000
set_option maxHeartbeats 4000000
namespace Go.Proofs.YtnmhaipjfpongacGreatDoor
open Go.ChangeShapes Go.WideShapes Go.ChangeAt Go.RowKit
theorem Rd.takeS{α:Type}{enc:α→Value}{w:World}{a:Option Addr}{cap:Nat}{l:List α}(h:Rd enc w (.slice a l.length cap) l)(j:Nat)(hj:j≤l.length):Rd enc w (.slice a j cap) (l.take j):=by
 obtain⟨a',cap',h1,h2,h3,h4⟩:=h;cases h1;have e:(l.take j).length=j:=by rw[List.length_take];omega
 refine⟨a,cap,by rw[e],by omega,h3,fun hl=>?_⟩
 obtain⟨b,off,h5,h6⟩:=h4 (fun e=>hl (by rw[e];simp))
 refine⟨b,off,h5,fun i r hr=>h6 i r ?_⟩
 rw[List.getElem?_take]at hr;split at hr
 ·exact hr
 ·cases hr
def dgB(c:UInt8):Bool:=decide (48≤c.toNat∧c.toNat≤57)
def numV(n:Nat)(s:B):Nat:=s.foldl (fun a c=>10*a+(c.toNat-48)) n
theorem Z7y(n:Nat)(c:UInt8)(r:B):numV n (c :: r)=numV (10*n+(c.toNat-48)) r:=by unfold numV;rw[List.foldl_cons]
theorem Z9y(n:Nat):numV n []=n:=by unfold numV;rw[List.foldl_nil]
def Z6u(m:Nat)(s:B):Bool:=decide (1≤s.length∧s.length≤m∧¬(1<s.length∧s.head?=some 48))&&s.all dgB
def numI(m:Nat)(s:B):Int:=match numB m s with|some n=>(n:Int)|none=>-1
theorem Zk7(n:Nat)(a:B)(c:UInt8):numV n (a++[c])=10*numV n a+(c.toNat-48):=by
 induction a generalizing n with
 | nil=>rw[List.nil_append,Z7y,Z9y,Z9y]
 | cons x a ih=>rw[List.cons_append,Z7y,Z7y];exact ih _
theorem Zik:∀(s:B)(n:Nat),s.all dgB=true→numV n s<(n+1)*10 ^ s.length
 | [],n,_=>by rw[Z9y];simp
 | c :: r,n,h=>by
  rw[List.all_cons,Bool.and_eq_true]at h;have hc:=of_decide_eq_true h.1;have:=Zik r (10*n+(c.toNat-48)) h.2;rw[Z7y,List.length_cons,Nat.pow_succ];refine Nat.lt_of_lt_of_le this ?_;rw[Nat.mul_comm (10 ^ r.length) 10,←Nat.mul_assoc];exact Nat.mul_le_mul_right _ (by omega)
theorem Zd6:∀(n:Nat)(s:B),s.length≤n→s≠[]→s.all dgB=true→¬(1<s.length∧s.head?=some 48)→Lib.decDigits (numV 0 s)=s
 | 0,s,hn,h,_,_=>absurd (List.length_eq_zero_iff.1 (Nat.le_zero.1 hn)) h
 | n+1,s,hn,h,hd,hz=>by
  obtain⟨t,c,rfl⟩:∃t c,s=t++[c]:=⟨_,_,(List.dropLast_concat_getLast h).symm⟩;have ih:=Zd6 n t (by simp at hn;omega)
  rw[List.all_append,Bool.and_eq_true]at hd;have hc:=of_decide_eq_true (show dgB c=true by simpa using hd.2)
  rw[Zk7];have ec:UInt8.ofNat (48+(c.toNat-48))=c:=by rw[show 48+(c.toNat-48)=c.toNat by omega];simp
  by_cases ht:t=[]
  ·subst ht
   rw[Z9y,Nat.mul_zero,Nat.zero_add,List.nil_append];rw[Lib.decDigits_one (by omega),ec]
  ·have hz':t.head?≠some 48:=fun e=>hz ⟨by have:=List.length_pos_iff.2 ht;simp;omega,by rw[List.head?_append,e];rfl⟩
   have h1:Lib.decDigits (numV 0 t)=t:=ih ht hd.1 (fun h=>hz' h.2)
   have hp:1≤numV 0 t:=by
    rcases Nat.eq_zero_or_pos (numV 0 t)with e|e
    ·rw[e,Lib.decDigits_one (by omega)]at h1
     rw[←h1]at hz';exact absurd rfl hz'
    ·exact e
   rw[Lib.decDigits,dif_neg (by omega)]
   have e1:(10*numV 0 t+(c.toNat-48)) / 10=numV 0 t:=by omega
   have e2:(10*numV 0 t+(c.toNat-48)) % 10=c.toNat-48:=by omega
   rw[e1,e2,h1,ec]
theorem dec_head(u:Nat):10≤u→(Lib.decDigits u).head?≠some 48:=by
 induction u using Nat.strongRecOn with
 | _ u ih=>
  intro h
  rw[Lib.decDigits,dif_neg (by omega)]
  by_cases h2:u / 10<10
  ·rw[Lib.decDigits_one h2]
   intro e
   have e:UInt8.ofNat (48+u / 10)=48:=by simpa using e
   have:=congrArg UInt8.toNat e
   rw[Z68 h2]at this;have h3:(48:UInt8).toNat=48:=rfl;omega
  ·have:=ih (u / 10) (by omega) (by omega)
   rw[List.head?_append];cases hh:(Lib.decDigits (u / 10)).head? with
   | none=>exact absurd (List.head?_eq_none_iff.1 hh) (Zpn _)
   | some x=>rw[hh]at this;simpa using this
theorem numB_ok{m:Nat}{s:B}(hm:m≤4)(h:Z6u m s=true):numB m s=some (numV 0 s):=by
 unfold Z6u at h;rw[Bool.and_eq_true]at h;obtain⟨h1,h2,h3⟩:=of_decide_eq_true h.1;have hne:s≠[]:=List.length_pos_iff.1 h1;have hd:=Zd6 s.length s (Nat.le_refl _) hne h.2 h3;have hlt:=Zik s 0 h.2;have h4:numV 0 s<10000:=by
  have:(10:Nat) ^ s.length≤10 ^ 4:=Nat.pow_le_pow_right (by omega) (by omega)
  omega
 have hn:=(Zb0 (num_dec h4)).1;rw[hd]at hn;unfold numB;rw[hn];simp only;rw[if_pos ⟨h2,by omega,by rw[Int.toNat_natCast];exact hd⟩,Int.toNat_natCast]
theorem numB_no{m:Nat}{s:B}(h:Z6u m s=false):numB m s=none:=by
 cases hn:numB m s with
 | none=>rfl
 | some n=>
  exfalso
  obtain⟨_,h2,h3⟩:=Zb0 hn;have h4:Z6u m s=true:=by
   unfold Z6u;rw[Bool.and_eq_true];refine⟨decide_eq_true ⟨List.length_pos_iff.2 (h3 ▸ Zpn n),h2,fun⟨h5,h6⟩=>?_⟩,?_⟩
   ·by_cases h10:n<10
    ·rw[←h3,Lib.decDigits_one h10]at h5;simp at h5
    ·exact dec_head n (by omega) (h3 ▸ h6)
   ·rw[List.all_eq_true]
    intro c hc
    rw[←h3]at hc;exact decide_eq_true (Zpo n c hc)
  rw[h4]at h;cases h
theorem Zdz{m:Nat}{s:B}(h:Z6u m s=false):numI m s=-1:=by unfold numI;rw[numB_no h]
theorem numI_ok{m:Nat}{s:B}(hm:m≤4)(h:Z6u m s=true):numI m s=(numV 0 s:Int):=by unfold numI;rw[numB_ok hm h]
def RetI(v:Value)(w:World)(e:Ending)(w':World):Prop:=e=.returned v∧w=w'
theorem Z9h(w:World)(s:B)(m:Nat)(hm:m≤4)(hs:s.length≤1000000) :
  Calls Tryz.prog 220 #[S s,I m] w (RetI (I (numI m s)) w):=by
 by_cases h1:s.length<1
 ·have hno:Z6u m s=false:=by unfold Z6u;rw[decide_eq_false (by omega)];rfl
  rw[Zdz hno];have h1z:(s.length:Int)<1:=by omega
  clear h1 hno;go_enter Tryz.func220,Tryz.ntmps220;go_wp2_with fail;go_ret;exact⟨rfl,rfl⟩
 ·have h1z:¬(s.length:Int)<1:=by omega
  by_cases h2:m<s.length
  ·have hno:Z6u m s=false:=by unfold Z6u;rw[decide_eq_false (by omega)];rfl
   rw[Zdz hno];have h2z:(m:Int)<(s.length:Int):=by omega
   clear h1 h2 hno;go_enter Tryz.func220,Tryz.ntmps220;go_wp2_with fail;go_ret;exact⟨rfl,rfl⟩
  ·have h2z:¬(m:Int)<(s.length:Int):=by omega
   obtain⟨c,r,rfl⟩:∃c r,s=c :: r:=by cases s with
    | nil=>simp at h1
    | cons c r=>exact⟨c,r,rfl⟩
   have hg:=Z3x (l:=c :: r) (j:=0) (c:=c) rfl;by_cases h3:1<(c :: r).length∧c=48
   ·have hno:Z6u m (c :: r)=false:=by unfold Z6u;rw[decide_eq_false (fun h=>h.2.2 ⟨h3.1,by rw[h3.2];rfl⟩)];rfl
    rw[Zdz hno];obtain⟨h3,rfl⟩:=h3;have h3z:(1:Int)<((48 :: r:B).length:Int):=by omega
    have h0z:(0:Int)<((48 :: r:B).length:Int):=by omega
    generalize (48 :: r:B)=s at *;clear h1 h2 h3 hno;go_enter Tryz.func220,Tryz.ntmps220;go_wp2_with fail;go_ret;exact⟨rfl,rfl⟩
   ·have hok:Z6u m (c :: r)=(c :: r).all dgB:=by
     unfold Z6u;rw[decide_eq_true ⟨by omega,by omega,fun h=>h3 ⟨h.1,by simpa using h.2⟩⟩]
     rfl
    have h0z:(0:Int)<((c :: r:B).length:Int):=by omega
    have hcz:(decide ((1:Int)<((c :: r:B).length:Int))&&((c.toNat:Int)==48))=false:=by
     rw[Bool.and_eq_false_iff];by_cases h4:1<(c :: r).length
     ·right
      refine Q3 fun e=>h3 ⟨h4,UInt8.toNat_inj.1 (by rw[show (48:UInt8).toNat=48 from rfl];omega)⟩
     ·left;exact decide_eq_false (by omega)
    generalize (c :: r:B)=s at *;have HOK:=Q0 hok;have HM:=Q0 hm;have HL:Hid (s.length≤m):=Q0 (by omega)
    have hparts:(¬(1:Int)<(s.length:Int))∨((1:Int)<(s.length:Int)∧((c.toNat:Int)==48)=false):=by
     by_cases h4:(1:Int)<(s.length:Int)
     ·rw[decide_eq_true h4,Bool.true_and]at hcz;exact .inr ⟨h4,hcz⟩
     ·exact .inl h4
    clear hok h1 h2 h3 hm hcz;rcases hparts with h4|⟨h4,h5⟩
    all_goals
     go_enter Tryz.func220,Tryz.ntmps220
     go_wp2_with fail;go_loop [5,6] (fun n i=>∃(j:Nat)(u:Nat),j≤s.length∧i=.int .i64 j∧n=.int .i64 u∧u≤100000∧Hid (u=numV 0 (s.take j))∧Hid ((s.take j).all dgB=true)) (fun _ i=>s.length-(intOf i).toNat)
     case atStart=>exact⟨0,0,Nat.zero_le _,rfl,rfl,by omega,Q0 rfl,Q0 rfl⟩
     case round=>
      obtain⟨j,u,hj,rfl,rfl,hu,HU,HA⟩:=hrel;by_cases hlt:j<s.length
      ·have hltz:(j:Int)<(s.length:Int):=by omega
       obtain⟨d,hd⟩:∃d,s[j]?=some d:=⟨_,Q1 hlt⟩;have hgd:=Z3x hd;have ht:s.take (j+1)=s.take j++[d]:=by rw[List.take_add_one,hd];rfl
       by_cases hdg:48≤d.toNat∧d.toNat≤57
       ·obtain⟨g1,g2⟩:=hdg
        have g1z:¬(d.toNat:Int)<48:=by omega
        have g2z:¬(57:Int)<(d.toNat:Int):=by omega
        obtain⟨q,hq⟩:∃q:Nat,q=d.toNat-48:=⟨_,rfl⟩;have hall:(s.take (j+1)).all dgB=true:=by rw[ht,List.all_append,HA.out];simp[dgB,g1,g2]
        have hnu:10*u+q=numV 0 (s.take (j+1)):=by rw[ht,Zk7,←HU.out,hq]
        have hb:numV 0 (s.take (j+1))<10000:=by
         have h6:=Zik (s.take (j+1)) 0 hall;have h7:(10:Nat) ^ (s.take (j+1)).length≤10 ^ 4:=Nat.pow_le_pow_right (by omega) (by rw[List.length_take];have:=HL.out;have:=HM.out;omega)
         omega
        have hqz:(d.toNat:Int)-48=(q:Int):=by omega
        have hw1:IntKind.u8.wrap (q:Int)=(q:Int):=IntKind.wraps_u8_ q (by omega)
        have hq9:q≤9:=by omega
        have HN:=Q0 hnu;have HAL:=Q0 hall;have hbu:10*u+q≤100000:=by omega
        clear hd ht hnu hall hb hq;go_wp2_with fail;go_round
        case rel=>exact⟨j+1,10*u+q,by omega,by go_num,by go_num,hbu,HN,HAL⟩
        case measure=>simp[intOf];omega
       ·have hno:Z6u m s=false:=by
         rw[HOK.out];refine Bool.eq_false_iff.2 fun h=>?_
         have:=List.all_eq_true.1 h d (Q4 hd)
         exact hdg (of_decide_eq_true this)
        have HN:=Q0 (Zdz hno);have hor:(decide ((d.toNat:Int)<48) || decide ((57:Int)<(d.toNat:Int)))=true:=by
         by_cases h8:d.toNat<48
         ·rw[decide_eq_true (show (d.toNat:Int)<48 by omega)];rfl
         ·rw[decide_eq_true (show (57:Int)<(d.toNat:Int) by omega),Bool.or_true]
        by_cases h8:(d.toNat:Int)<48
        ·clear hd ht hno hor hdg
         go_wp2_with fail;go_ret
         exact⟨by rw[HN.out];rfl,rfl⟩
        ·have h9:(57:Int)<(d.toNat:Int):=by omega
         clear hd ht hno hor hdg;go_wp2_with fail;go_ret;exact⟨by rw[HN.out];rfl,rfl⟩
      ·have hltz:¬(j:Int)<(s.length:Int):=by omega
       have ht:s.take j=s:=List.take_of_length_le (by omega)
       rw[ht]at HU HA;have HN:=Q0 (numI_ok HM.out (by rw[HOK.out,HA.out]))
       go_wp2_with fail;go_ret
       exact⟨by rw[HN.out,HU.out];rfl,rfl⟩
theorem occ_take(s d:B)(i:Nat)(hi:i≤s.length):(decide (i+d.length≤s.length)&&((s.take (i+d.length)).drop i==d))=Lib.occAt s d i:=by
 unfold Lib.occAt;rw[Bool.eq_iff_iff,Bool.and_eq_true,decide_eq_true_eq,beq_iff_eq,List.isPrefixOf_iff_prefix,List.drop_take,Nat.add_sub_cancel_left];constructor
 ·rintro⟨h1,h2⟩
  rw[←h2];exact List.take_prefix _ _
 ·intro h
  have:=h.length_le
  rw[List.length_drop]at this;have hh:=List.prefix_iff_eq_take.1 h;exact⟨by omega,hh.symm⟩
theorem Zj1(w:World)(s d:B)(i:Nat)(hs:s.length≤1000000)(hd:d.length≤1000000)(hi:i≤s.length) :
  Calls Tryz.prog 223 #[S s,I i,S d] w (RetI (.bool (Lib.occAt s d i)) w):=by
 have ho:=occ_take s d i hi;obtain⟨r,hr⟩:∃r,r=Lib.occAt s d i:=⟨_,rfl⟩;rw[←hr]at ho ⊢;have hi0:(0:Int)≤(i:Int):=by omega
 have hii:(i:Int)≤(i:Int)+(d.length:Int):=by omega
 by_cases h1:i+d.length≤s.length
 ·have h1z:(i:Int)+(d.length:Int)≤(s.length:Int):=by omega
  rw[decide_eq_true h1,Bool.true_and]at ho;have hm:=Z5s s i (i+d.length);generalize ((s.take (i+d.length)).drop i)=x at *;clear hr;go_enter Tryz.func223,Tryz.ntmps223;go_wp2_with fail;go_ret;exact⟨rfl,rfl⟩
 ·have h1z:¬(i:Int)+(d.length:Int)≤(s.length:Int):=by omega
  rw[decide_eq_false h1,Bool.false_and]at ho;subst ho;clear hr;go_enter Tryz.func223,Tryz.ntmps223;go_wp2_with fail;go_ret;exact⟨rfl,rfl⟩
theorem in_any(w:World)(s d:B)(hs:s.length≤1000000)(hd:d.length≤1000000) :
  Calls Tryz.prog 222 #[S s,S d] w (RetI (.bool (hasB d s)) w):=by
 have HH:=Q0 (fun i (hi:i≤s.length)=>Zj1 w s d i hs hd hi)
 obtain⟨r,hr⟩:∃r,r=hasB d s:=⟨_,rfl⟩;rw[←hr];have HR:=Q0 hr;clear hr;go_enter Tryz.func222,Tryz.ntmps222;go_wp2_with fail;go_loop [5] (fun i=>∃j:Nat,j≤s.length+1∧i=.int .i64 j∧Hid (Lib.NoOcc s d j)) (fun i=>s.length+1-(intOf i).toNat)
 case atStart=>exact⟨0,Nat.zero_le _,rfl,Q0 (Lib.NoOcc.zero s d)⟩
 case round=>
  obtain⟨j,hj,rfl,HN⟩:=hrel;by_cases hlt:j≤s.length
  ·have hltz:(j:Int)≤(s.length:Int):=by omega
   have H:=Q0 (HH.out j hlt);cases ho:Lib.occAt s d j with
   | true=>
    rw[ho]at H;have h2:r=true:=by
     rw[HR.out];unfold hasB Lib.contains;rw[Lib.index_hit HN.out hlt ho];exact decide_eq_true (by omega)
    subst h2;clear ho;go_wp2_with fail;refine(H.out).mono ?_;rintro e w1 ⟨rfl,rfl⟩;go_wp2_with fail;go_ret;exact⟨rfl,rfl⟩
   | false=>
    rw[ho]at H;have HN2:=Q0 (HN.out.succ ho);clear ho;go_wp2_with fail;refine(H.out).mono ?_;rintro e w1 ⟨rfl,rfl⟩;go_wp2_with fail;go_round
    case rel=>exact⟨j+1,by omega,by go_num,HN2⟩
    case measure=>simp[intOf];omega
  ·have hltz:¬(j:Int)≤(s.length:Int):=by omega
   have h2:r=false:=by
    rw[HR.out];unfold hasB Lib.contains;rw[Lib.index_none fun i hi=>HN.out i (by omega)]
    rfl
   subst h2;go_wp2_with fail;go_ret;exact⟨rfl,rfl⟩
theorem Z2p{l:List B}{s:B}{k:Nat}(hl:l.Pairwise fun x y=>decide (x≤y)=true)(hk:k≤l.length)(h1:∀(j:Nat) x,k≤j→l[j]?=some x→s<x)(h2:∀j x,k=j+1→l[j]?=some x→¬s<x) :
  Z0m (l++[s])=l.take k++[s]++l.drop k:=by
 refine Zjs ?_ ?_
 ·have:(l.take k++[s]++l.drop k).Perm (l.take k++(l.drop k++[s])):=by
   rw[List.append_assoc];exact List.Perm.append_left _ List.perm_append_comm
  rw[←List.append_assoc,List.take_append_drop]at this;exact this.symm
 ·rw[List.append_assoc,List.pairwise_append]
  refine⟨hl.sublist (List.take_sublist _ _),?_,?_⟩
  ·rw[List.singleton_append,List.pairwise_cons]
   refine⟨fun x hx=>?_,hl.sublist (List.drop_sublist _ _)⟩
   obtain⟨j,hj⟩:=List.getElem?_of_mem hx;rw[List.getElem?_drop]at hj;exact decide_eq_true (List.le_of_lt (h1 _ x (Nat.le_add_right _ _) hj))
  ·intro x hx y hy
   have hxs:x≤s:=by
    obtain⟨j,hj⟩:=List.getElem?_of_mem hx;rw[List.getElem?_take]at hj;split at hj
    ·rename_i hjk
     obtain⟨k',rfl⟩:∃k',k=k'+1:=⟨k-1,by omega⟩
     obtain⟨z,hz⟩:∃z,l[k']?=some z:=⟨_,Q1 (by omega)⟩
     have hzs:z≤s:=List.not_lt.1 (h2 k' z rfl hz);by_cases e:j=k'
     ·subst e;rw[hz]at hj;cases hj;exact hzs
     ·obtain⟨a1,rfl⟩:=Q2 hj
      obtain⟨a2,rfl⟩:=Q2 hz;have:=List.pairwise_iff_getElem.1 hl j k' a1 a2 (by omega)
      exact List.le_trans (of_decide_eq_true this) hzs
    ·cases hj
   rcases List.mem_cons.1 (by simpa using hy)with rfl|hy
   ·exact decide_eq_true hxs
   ·obtain⟨j,hj⟩:=List.getElem?_of_mem hy
    rw[List.getElem?_drop]at hj;exact decide_eq_true (List.le_trans hxs (List.le_of_lt (h1 _ y (Nat.le_add_right _ _) hj)))
theorem Z9w{ao:Option Addr}{n c:Nat}(h:(Value.slice ao n c).ownBlock=none)(hn:ao≠none):False:=by
 cases ao with
 | none=>exact hn rfl
 | some x=>cases h
theorem Rd.dropT{w:World}{b off cap k:Nat}{l:List B}{ao:Option Addr}(h:Rd S w (.slice (some ⟨b,off,none⟩) l.length cap) l)(hk:k≤l.length)(hao:(if cap=k then some (⟨b,off,none⟩:Addr)else some ⟨b,off+k,none⟩)=ao) :
  Rd S w (.slice ao (l.drop k).length (cap-k)) (l.drop k)∧ao≠none:=by
 obtain⟨a,cap',h1,h2,h3,h4⟩:=h;cases h1;refine⟨⟨ao,cap-k,rfl,by rw[List.length_drop];omega,by unfold maxLen at h3 ⊢;omega,fun hl=>?_⟩,?_⟩
 ·have hlk:k<l.length:=by
   rcases Nat.lt_or_ge k l.length with h|h
   ·exact h
   ·exact absurd (List.drop_of_length_le h) hl
  obtain⟨b',off',h5,h6⟩:=h4 (fun e=>by rw[e]at hlk;simp at hlk)
  cases h5;rw[if_neg (by omega)]at hao
  refine⟨b,off+k,hao.symm,fun j x hx=>?_⟩
  rw[List.getElem?_drop]at hx;have:=h6 (k+j) x hx;rw[Nat.add_assoc];exact this
 ·rw[←hao]
  split <;> simp
theorem Row.cases{base:Nat}{w:World}{v:Value}{l:List B}(h:Row base w v l):(v=.slice none 0 0∧l=[])∨∃g cap,v=.slice (some ⟨g,0,none⟩) l.length cap:=by
 rcases h.2 with⟨h1,h2⟩|⟨g,cap,_,h1,_⟩
 ·exact .inl ⟨h1,by cases l with
   | nil=>rfl
   | cons x l=>simp at h2⟩
 ·exact .inr ⟨g,cap,h1⟩
theorem lay_any(w:World)(b0:Nat)(v:Value)(l:List B)(s:B)(hr:Row b0 w v l)(hs:l.Pairwise fun x y=>decide (x≤y)=true)(hl:l.length≤900000) :
  Calls Tryz.prog 208 #[v,S s] w (Zhi (Z0m (l++[s])) w):=by
 have HNZ:Hid (Row w.heap.size w (.slice none 0 0) []):=Q0 (Row.nil _ _);rcases hr.cases with⟨rfl,rfl⟩|⟨g,cap,rfl⟩
 ·have hso:=Z2p (l:=[]) (s:=s) (k:=0) (by simp) (by simp) (by simp) (by simp)
  simp only[List.take_nil,List.drop_nil,List.append_nil,List.nil_append]at hso ⊢;rw[hso];clear hso hr hs hl;go_enter Tryz.func208,Tryz.ntmps208;go_wp2_with fail;go_loop [5] (fun i=>i=.int .i64 0) (fun i=>(intOf i).toNat)
  case atStart=>rfl
  case round=>
   subst hrel;go_wp2_with (first
    | (at_builtin;refine Z22 rfl (.tmp 22) (.tmp 25) w w.heap.size _ (.slice none 0 0) [] [] w rfl rfl rfl rfl HNZ.out.rd HNZ.out.nz HNZ.out (by simp) (Nat.le_refl _) (Only.refl _ _) (Nat.le_refl _) ?_;intro a1 m1 c1 w1 hm1 HR1 HX1 _;clear hm1)
    | (at_builtin;refine Z2t rfl (.tmp 27) (.tmp 29) w w.heap.size _ [] s w1 rfl rfl rfl rfl HR1.out (by simp) HX1.out.size HX1.out (Nat.le_refl _) ?_;intro g2 c2 w2 HR2 HX2 _)
    | (at_builtin;refine Z22 rfl (.tmp 31) (.tmp 34) w w.heap.size _ (.slice none 0 0) [s] [] w2 rfl rfl rfl rfl (Row.nil w.heap.size w2).rd (Row.nil w.heap.size w2).nz HR2.out (by simp) HX2.out.size HX2.out (Nat.le_refl _) ?_;intro a3 m3 c3 w3 hm3 HR3 HX3 _;clear hm3))
   go_ret;exact⟨_,rfl,HX3.out,by simpa using HR3.out⟩
 ·have HRD:=Q0 hr.rd
  obtain⟨_,_,hv,hcap,hm,hc⟩:=hr.rd;cases hv;have hcapz:(l.length:Int)≤(cap:Int):=by omega
  have HC:Hid (∀(i:Nat) x,l[i]?=some x→w.cell? ⟨g,i,none⟩=some (S x)):=Q0 (fun i x hx=>by
   obtain⟨b,off,e,h⟩:=hc (by intro e;rw[e]at hx;simp at hx)
   cases e;simpa using h i x hx)
  have HS:=Q0 hs;have HL:=Q0 hl;clear hs hl;clear hm hc hr;go_enter Tryz.func208,Tryz.ntmps208;go_upto_block 0 with fail;go_cut [5] (fun v wx=>wx=w∧∃k:Nat,k≤l.length∧v=.int .i64 k∧Hid (Z0m (l++[s])=l.take k++[s]++l.drop k))
  case first=>
   go_wp2_with fail;go_loopw [5] (fun i wx=>wx=w∧∃k:Nat,k≤l.length∧i=.int .i64 k∧Hid (∀(j:Nat) x,k≤j→l[j]?=some x→s<x)) (fun i _=>(intOf i).toNat)
   case atStart=>exact⟨rfl,l.length,Nat.le_refl _,rfl,Q0 (fun j x h hx=>by have:=(Q2 hx).1;omega)⟩
   case round=>
    obtain⟨rfl,k,hk,rfl,HG⟩:=hrel;have hk0:(0:Int)≤(k:Int):=by omega
    by_cases hk1:k=0
    ·subst hk1
     have HSO:=Q0 (Z2p HS.out hk HG.out (fun j x h=>by omega))
     go_wp2_with fail;go_meet
     exact⟨rfl,0,hk,rfl,HSO⟩
    ·obtain⟨k',hkk⟩:∃k',k=k'+1:=⟨k-1,by omega⟩
     obtain⟨x,hx⟩:∃x,l[k']?=some x:=⟨_,Q1 (by omega)⟩
     have d0:=HC.out k' x hx;have hwk:IntKind.i64.wrap ((k:Int)-1)=(k':Int):=by rw[show (k:Int)-1=(k':Int) by omega];exact IntWalk.i64_in _ (by have:=HL.out;omega)
     have hp:(0:Int)<(k:Int):=by omega
     have hk2:(k':Int)<(l.length:Int):=by omega
     have hk3:(0:Int)≤(k':Int):=by omega
     by_cases hlt:s<x
     ·have hbl:=bytesLess_eq x s
      rw[decide_eq_false (List.lt_asymm hlt)]at hbl;have hne:(x==s)=false:=Q3 fun e=>Z42 _ (e ▸ hlt)
      have HX:=Q0 hx;have HLT:=Q0 hlt;have HM:=Q0 hkk;clear hx hlt hkk;clear hk1;go_wp2_with fail;go_roundw
      case rel=>exact⟨trivial,k',by omega,rfl,Q0 (fun j y hj hy=>by
       rcases Nat.eq_or_lt_of_le hj with e|e
       ·subst e;rw[HX.out]at hy;cases hy;exact HLT.out
       ·exact HG.out j y (by have:=HM.out;omega) hy)⟩
      case measure=>have:=HM.out;simp[intOf];omega
     ·have HSO:=Q0 (Z2p HS.out hk HG.out (fun j y e hy=>by
       obtain rfl:j=k':=by omega
       rw[hx]at hy;cases hy;exact hlt))
      have hor:(!Op.bytesLess x s&&!(x==s))=false:=by
       rw[bytesLess_eq];by_cases e:x=s
       ·simp[e]
       ·have:x<s:=Classical.byContradiction fun h=>e (Zb7 h hlt)
        simp[this]
      clear hx hlt hk1 hkk;go_wp2_with fail
      all_goals
       go_meet
       exact⟨rfl,k,hk,rfl,HSO⟩
  case rest=>
   obtain⟨rfl,k,hk,rfl,HSO⟩:=hcut;have hkl:(l.take k).length=k:=by rw[List.length_take];omega
   have HHT:Hid (Rd S wc (.slice (some ⟨g,0,none⟩) k cap) (l.take k)):=Q0 (Rd.takeS HRD.out k hk);have hk0:(0:Int)≤(k:Int):=by omega
   have hkz:(k:Int)≤(l.length:Int):=by omega
   have hkc:(k:Int)≤(cap:Int):=by omega
   have hld:(l.drop k).length=l.length-k:=List.length_drop ..
   have HHL:Hid ((l.take k).length+1+(l.drop k).length≤1000000):=Q0 (by rw[hkl,hld];have:=HL.out;omega)
   have HLD:=Q0 hld;have HKL:=Q0 hkl;clear hld hkl;go_wp2_with (first
    | (at_builtin;refine Z22 rfl (.tmp 22) (.tmp 25) wc wc.heap.size _ (.slice (some ⟨g,0,none⟩) k cap) [] (l.take k) wc rfl rfl rfl rfl HHT.out (by intro h;cases h) HNZ.out (by have:=HHL.out;simp only[List.length_nil];omega) (Nat.le_refl _) (Only.refl _ _) (Nat.le_refl _) ?_;intro a1 m1 c1 w1 hm1 HR1 HX1 _;clear hm1)
    | (at_builtin;refine Z2t rfl (.tmp 27) (.tmp 29) wc wc.heap.size _ ([]++l.take k) s w1 rfl rfl rfl rfl HR1.out (by have:=HHL.out;rw[List.nil_append];omega) HX1.out.size HX1.out (Nat.le_refl _) ?_;intro g2 c2 w2 HR0 HX2 _;have HR2:Hid (Row wc.heap.size w2 (.slice (some ⟨g2,0,none⟩) (k+1) c2) (l.take k++[s])):=Q0 (by have:=HR0.out;rw[List.nil_append,HKL.out]at this;exact this))
    | (at_builtin;generalize hAO:(if cap=k then some (⟨g,0,none⟩:Addr)else some ⟨g,k,none⟩)=ao;have hdr:=Rd.dropT (ao:=ao) HRD.out hk (by rw[Nat.zero_add];exact hAO);refine Z22 rfl (.tmp 31) (.tmp 34) wc wc.heap.size _ (.slice ao (l.length-k) (cap-k)) (l.take k++[s]) (l.drop k) w2 rfl rfl rfl rfl (Rd.ext (HLD.out ▸ hdr.1) HX2.out) (fun h=>(Z9w h hdr.2).elim) HR2.out (by have:=HHL.out;rw[List.length_append,List.length_singleton];exact this) HX2.out.size HX2.out (Nat.le_refl _) ?_;intro a3 m3 c3 w3 hm3 HR3 HX3 _;clear hm3 hdr hAO))
   go_ret;exact⟨_,rfl,HX3.out,by rw[HSO.out];simpa using HR3.out⟩
def Kd.name:Kd→B
 | .head=>[104,101,97,100]
 | .swap=>[115,119,97,112]
 | .count=>[99,111,117,110,116]
 | .sort=>[115,111,114,116]
 | .lines=>[108,105,110,101,115]
 | .upper=>[117,112,112,101,114]
 | .join=>[106,111,105,110]
 | .write=>[119,114,105,116,101]
def Kd.num:Kd→Nat
 | .head=>0
 | .swap=>1
 | .count=>2
 | .sort=>3
 | .lines=>4
 | .upper=>5
 | .join=>6
 | .write=>7
def Kd.isN(i:Nat)(k:Kd):Bool:=k.num==i
theorem Zgm{name:B}{k:Kd}(h:kinds.lookup name=some k):name=k.name:=by
 unfold kinds at h;simp only[List.lookup]at h
 repeat' split at h
 all_goals first
  | (rename_i e;cases h;exact beq_iff_eq.1 e)
  | cases h
theorem kind_not{name:B}(h:kinds.lookup name=none):(name==[104,101,97,100])=false∧(name==[115,119,97,112])=false∧(name==[99,111,117,110,116])=false∧(name==[115,111,114,116])=false∧
  (name==[108,105,110,101,115])=false∧(name==[117,112,112,101,114])=false∧(name==[106,111,105,110])=false∧(name==[119,114,105,116,101])=false:=by
 unfold kinds at h;simp only[List.lookup]at h
 repeat' split at h
 all_goals first
  | cases h;done
  | skip
 all_goals (refine⟨?_,?_,?_,?_,?_,?_,?_,?_⟩ <;> assumption)
theorem pair_len(wd:B):(decide ((cutc 61 wd).length=2)&&!(wd.head?==some 61))=Zc0 wd:=by
 unfold Zc0;rw[Z3g];congr 1;rw[Bool.eq_iff_iff,decide_eq_true_eq,beq_iff_eq];omega
theorem Zm4(wd:B):decide (0≤numI 3 wd)=(numB 3 wd).isSome:=by
 unfold numI;cases numB 3 wd with
 | none=>rfl
 | some n=>exact decide_eq_true (Int.natCast_nonneg n)
theorem Z9r(w:World)(name wd:B)(n:Nat)(hw:wd.length≤900000) :
  Calls Tryz.prog 170 #[S name,S wd,I n] w (RetE (I (Z1b name wd n)) w):=by
 cases hk:kinds.lookup name with
 | none=>
  have hc:Z1b name wd n=5:=by unfold Z1b;rw[hk]
  rw[hc];obtain⟨e1,e2,e3,e4,e5,e6,e7,e8⟩:=kind_not hk;clear hk hc;go_enter Tryz.func170,Tryz.ntmps170;go_wp2_with fail;go_ret;exact⟨rfl,Only.refl _ _⟩
 | some k=>
  have hcode:Z1b name wd n=if n<k.least∨k.most<n∨k.word wd=false then 3 else if 100<wd.length then 10 else 0:=by unfold Z1b;rw[hk]
  obtain rfl:=Zgm hk;rw[hcode];obtain⟨R,hR⟩:∃R:Nat,R=if n<k.least∨k.most<n∨k.word wd=false then 3 else if 100<wd.length then 10 else 0:=⟨_,rfl⟩
  rw[←hR];have HR:=Q0 hR;clear hR;have HNU:=Q0 (fun W=>Z9h W wd 3 (by decide) (by omega))
  have HCU:=Q0 (fun W=>Z3c W 61 61 (by decide) wd (by omega))
  have HPL:=Q0 (pair_len wd);have HNI:=Q0 (Zm4 wd);have e1:(k.name==[104,101,97,100])=Kd.isN 0 k:=by cases k <;> rfl
  have e2:(k.name==[115,119,97,112])=Kd.isN 1 k:=by cases k <;> rfl
  have e3:(k.name==[99,111,117,110,116])=Kd.isN 2 k:=by cases k <;> rfl
  have e4:(k.name==[115,111,114,116])=Kd.isN 3 k:=by cases k <;> rfl
  have e5:(k.name==[108,105,110,101,115])=Kd.isN 4 k:=by cases k <;> rfl
  have e6:(k.name==[117,112,112,101,114])=Kd.isN 5 k:=by cases k <;> rfl
  have e7:(k.name==[106,111,105,110])=Kd.isN 6 k:=by cases k <;> rfl
  have e8:(k.name==[119,114,105,116,101])=Kd.isN 7 k:=by cases k <;> rfl
  generalize k.name=nm at *;clear hk hcode;go_enter Tryz.func170,Tryz.ntmps170;go_upto_block 0 with fail;go_cut [7,8,9] (fun a b c wx=>a=I k.least∧b=I k.most∧c=.bool (k.word wd)∧Hid (Ext w wx))
  case first=>
   cases k with
   | write=>
    first|change _=true at e1|change _=false at e1
    first|change _=true at e2|change _=false at e2
    first|change _=true at e3|change _=false at e3
    first|change _=true at e4|change _=false at e4
    first|change _=true at e5|change _=false at e5
    first|change _=true at e6|change _=false at e6
    first|change _=true at e7|change _=false at e7
    first|change _=true at e8|change _=false at e8
    go_wp2_with fail;go_meet
    exact⟨rfl,rfl,rfl,Q0 (Only.refl _ _)⟩
   | join=>
    first|change _=true at e1|change _=false at e1
    first|change _=true at e2|change _=false at e2
    first|change _=true at e3|change _=false at e3
    first|change _=true at e4|change _=false at e4
    first|change _=true at e5|change _=false at e5
    first|change _=true at e6|change _=false at e6
    first|change _=true at e7|change _=false at e7
    first|change _=true at e8|change _=false at e8
    go_wp2_with fail;go_meet
    exact⟨rfl,rfl,rfl,Q0 (Only.refl _ _)⟩
   | upper=>
    first|change _=true at e1|change _=false at e1
    first|change _=true at e2|change _=false at e2
    first|change _=true at e3|change _=false at e3
    first|change _=true at e4|change _=false at e4
    first|change _=true at e5|change _=false at e5
    first|change _=true at e6|change _=false at e6
    first|change _=true at e7|change _=false at e7
    first|change _=true at e8|change _=false at e8
    go_wp2_with fail;go_meet
    exact⟨rfl,rfl,by cases wd <;> rfl,Q0 (Only.refl _ _)⟩
   | lines=>
    first|change _=true at e1|change _=false at e1
    first|change _=true at e2|change _=false at e2
    first|change _=true at e3|change _=false at e3
    first|change _=true at e4|change _=false at e4
    first|change _=true at e5|change _=false at e5
    first|change _=true at e6|change _=false at e6
    first|change _=true at e7|change _=false at e7
    first|change _=true at e8|change _=false at e8
    go_wp2_with fail;go_meet
    exact⟨rfl,rfl,rfl,Q0 (Only.refl _ _)⟩
   | sort=>
    first|change _=true at e1|change _=false at e1
    first|change _=true at e2|change _=false at e2
    first|change _=true at e3|change _=false at e3
    first|change _=true at e4|change _=false at e4
    first|change _=true at e5|change _=false at e5
    first|change _=true at e6|change _=false at e6
    first|change _=true at e7|change _=false at e7
    first|change _=true at e8|change _=false at e8
    cases hq:wd==[]with
    | true=>
     go_wp2_with fail;go_meet
     exact⟨rfl,rfl,by show _=Value.bool (wd==[] || wd==[111,110,99,101]);rw[hq];rfl,Q0 (Only.refl _ _)⟩
    | false=>
     go_wp2_with fail;go_meet
     exact⟨rfl,rfl,by show _=Value.bool (wd==[] || wd==[111,110,99,101]);rw[hq];rfl,Q0 (Only.refl _ _)⟩
   | count=>
    first|change _=true at e1|change _=false at e1
    first|change _=true at e2|change _=false at e2
    first|change _=true at e3|change _=false at e3
    first|change _=true at e4|change _=false at e4
    first|change _=true at e5|change _=false at e5
    first|change _=true at e6|change _=false at e6
    first|change _=true at e7|change _=false at e7
    first|change _=true at e8|change _=false at e8
    go_wp2_with fail;go_meet
    exact⟨rfl,rfl,by cases wd <;> rfl,Q0 (Only.refl _ _)⟩
   | swap=>
    first|change _=true at e1|change _=false at e1
    first|change _=true at e2|change _=false at e2
    first|change _=true at e3|change _=false at e3
    first|change _=true at e4|change _=false at e4
    first|change _=true at e5|change _=false at e5
    first|change _=true at e6|change _=false at e6
    first|change _=true at e7|change _=false at e7
    first|change _=true at e8|change _=false at e8
    have HW:Hid (Kd.swap.word wd=(decide ((cutc 61 wd).length=2)&&!(wd.head?==some 61))):=Q0 HPL.out.symm
    have hl:=Z3g 61 wd;have hcl:=List.count_le_length (a:=(61:UInt8)) (l:=wd);generalize (cutc 61 wd).length=m at *;by_cases h2:m=2
    ·subst h2
     cases wd with
     | nil=>simp at hl
     | cons c r=>
      have hg:=Z3x (l:=c :: r) (j:=0) (c:=c) rfl;have hlen:(0:Int)<((c :: r:B).length:Int):=by simp
      obtain⟨q,hq⟩:∃q,((c.toNat:Int)==61)=q:=⟨_,rfl⟩;have HQ:Hid ((c==61)=q):=Q0 (by
       rw[←hq,Bool.eq_iff_iff,beq_iff_eq,beq_iff_eq];constructor
       ·intro e;rw[e];rfl
       ·intro e;exact UInt8.toNat_inj.1 (by rw[show (61:UInt8).toNat=61 from rfl];omega))
      have HW2:Hid (Kd.swap.word (c :: r) = !q):=Q0 (by rw[HW.out,←HQ.out];simp)
      clear hl hcl HNU HNI HPL HW;generalize (c :: r:B)=wd at *;go_wp2_with fail;refine(HCU.out w).mono ?_;rintro e w1 ⟨g,cap,rfl,hr,ho⟩;have HO:=Q0 ho;clear ho hr;have HHQ:=Q0 hq;clear hq;go_wp2_with fail;go_meet;exact⟨rfl,rfl,by rw[HW2.out,←HHQ.out];rfl,HO⟩
    ·have hmz:((m:Int)==2)=false:=Q3 (by omega)
     have HW2:Hid (Kd.swap.word wd=false):=Q0 (by rw[HW.out,decide_eq_false h2];rfl)
     clear hl hcl HNU HNI HPL HW h2;go_wp2_with fail;refine(HCU.out w).mono ?_;rintro e w1 ⟨g,cap,rfl,hr,ho⟩;have HO:=Q0 ho;clear ho hr;go_wp2_with fail;go_meet;exact⟨rfl,rfl,by rw[HW2.out],HO⟩
   | head=>
    first|change _=true at e1|change _=false at e1
    first|change _=true at e2|change _=false at e2
    first|change _=true at e3|change _=false at e3
    first|change _=true at e4|change _=false at e4
    first|change _=true at e5|change _=false at e5
    first|change _=true at e6|change _=false at e6
    first|change _=true at e7|change _=false at e7
    first|change _=true at e8|change _=false at e8
    go_wp2_with fail;refine(HNU.out w).mono ?_
    rintro e w1 ⟨rfl,rfl⟩;go_wp2_with fail;go_meet;exact⟨rfl,rfl,by rw[HNI.out];rfl,Q0 (Only.refl _ _)⟩
  case rest=>
   obtain⟨rfl,rfl,rfl,HO⟩:=hcut;clear e1 e2 e3 e4 e5 e6 e7 e8 HNU HCU HPL HNI;have hR:=HR.out;clear HR;generalize k.least=lo at *;generalize k.most=hi at *;generalize k.word wd=r at *;by_cases h1:n<lo
   ·rw[if_pos (.inl h1)]at hR
    have h1z:(n:Int)<(lo:Int):=by omega
    subst hR;clear h1;go_wp2_with fail;go_ret;exact⟨rfl,HO.out⟩
   ·have h1z:¬(n:Int)<(lo:Int):=by omega
    by_cases h2:hi<n
    ·rw[if_pos (.inr (.inl h2))]at hR
     have h2z:(hi:Int)<(n:Int):=by omega
     subst hR;clear h1 h2;go_wp2_with fail;go_ret;exact⟨rfl,HO.out⟩
    ·have h2z:¬(hi:Int)<(n:Int):=by omega
     cases r with
     | false=>
      rw[if_pos (.inr (.inr rfl))]at hR;subst hR;clear h1 h2;go_wp2_with fail;go_ret;exact⟨rfl,HO.out⟩
     | true=>
      rw[if_neg (by simp;omega)]at hR
      clear h1 h2;by_cases h3:100<wd.length
      ·rw[if_pos h3]at hR
       have h3z:(100:Int)<(wd.length:Int):=by omega
       subst hR;clear h3;go_wp2_with fail;go_ret;exact⟨rfl,HO.out⟩
      ·rw[if_neg h3]at hR
       have h3z:¬(100:Int)<(wd.length:Int):=by omega
       subst hR;clear h3;go_wp2_with fail;go_ret;exact⟨rfl,HO.out⟩
end Go.Proofs.YtnmhaipjfpongacGreatDoor
