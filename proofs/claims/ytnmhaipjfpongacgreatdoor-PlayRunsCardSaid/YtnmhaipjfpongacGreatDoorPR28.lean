/- A part of this claim's proof;each theorem bears its own conditions. -/
import Derived.Test.YtnmhaipjfpongacGreatDoorPR24
set_option maxRecDepth 100000
set_option maxHeartbeats 8000000
namespace Go.Proofs.YtnmhaipjfpongacGreatDoor
open Go.ChangeShapes Go.WideShapes Go.ChangeAt Go.RowKit
def Z62(is:Nat→Bool)(ds:List Nat):Nat→Bool
 | 0=>false
 | j+1=>Z62 is ds j || (is j&&!decide (j∈ds))
def frTo(nd:Nat→Nat→Bool)(ds:List Nat)(i:Nat):Nat→Bool
 | 0=>true
 | t+1=>frTo nd ds i t&&!(!decide (t∈ds)&&nd i t)
def Zcs(n:Nat)(nd:Nat→Nat→Bool)(is:Nat→Bool)(ds:List Nat)(j:Nat):Option Nat→Option Nat
 | some k=>some k
 | none=>if Z3f n nd is ds j then some j else none
def Z52(n:Nat)(nd:Nat→Nat→Bool)(is:Nat→Bool)(ds:List Nat):Nat→Option Nat
 | 0=>none
 | j+1=>Zcs n nd is ds j (Z52 n nd is ds j)
theorem fr_iff{nd:Nat→Nat→Bool}{ds:List Nat}{i:Nat}:∀{t:Nat},frTo nd ds i t=true↔∀k,k<t→nd i k=true→k∈ds
 | 0=>by simp[frTo]
 | t+1=>by
  rw[frTo,Bool.and_eq_true,fr_iff];constructor
  ·rintro⟨h1,h2⟩ k hk hn
   rcases Nat.lt_succ_iff_lt_or_eq.1 hk with h|rfl
   ·exact h1 k h hn
   ·rw[hn]at h2;simpa using h2
  ·intro h
   refine⟨fun k hk hn=>h k (by omega) hn,?_⟩
   cases hn:nd i t with
   | false=>simp
   | true=>simpa using h t (by omega) hn
theorem free_fr{n:Nat}{nd:Nat→Nat→Bool}{is:Nat→Bool}{ds:List Nat}{i:Nat}(hi:is i=true)(hd:i∉ds):Z3f n nd is ds i=frTo nd ds i n:=by
 rw[Bool.eq_iff_iff,fr_iff];unfold Z3f;rw[Bool.and_eq_true,Bool.and_eq_true,Bool.not_eq_true',Bool.not_eq_true',List.any_eq_false];constructor
 ·rintro⟨_,h⟩ k hk hn
  have:=h k (Z3l.2 ⟨hk,hn⟩)
  simpa using this
 ·intro h
  refine⟨⟨hi,by simpa using hd⟩,fun k hk=>?_⟩
  obtain⟨h1,h2⟩:=Z3l.1 hk;simpa using h k h1 h2
theorem Zkl{n:Nat}{nd:Nat→Nat→Bool}{is:Nat→Bool}{ds:List Nat}{i:Nat}(h:i∈ds∨is i=false):Z3f n nd is ds i=false:=by
 unfold Z3f;rcases h with h|h
 ·have:ds.contains i=true:=by simpa using h
  rw[this];simp
 ·rw[h];simp
theorem Zoq{n:Nat}{nd:Nat→Nat→Bool}{is:Nat→Bool}{ds:List Nat}:∀(j:Nat),Z52 n nd is ds j=(List.range j).find? (Z3f n nd is ds)
 | 0=>rfl
 | j+1=>by
  rw[Z52,List.range_succ,List.find?_append,←Zoq j];cases Z52 n nd is ds j with
  | some k=>rfl
  | none=>
   rw[Option.none_or];unfold Zcs;by_cases h:Z3f n nd is ds j=true
   ·simp[h]
   ·simp[h]
theorem next_all{n:Nat}{nd:Nat→Nat→Bool}{is:Nat→Bool}{ds:List Nat}:Z52 n nd is ds n=Z6v n nd is ds:=Zoq n
theorem Zkc{is:Nat→Bool}{ds:List Nat}:∀{j:Nat},Z62 is ds j=true↔∃t,t<j∧is t=true∧t∉ds
 | 0=>by simp[Z62]
 | j+1=>by
  rw[Z62,Bool.or_eq_true,Zkc];constructor
  ·rintro(⟨t,h1,h2⟩|h)
   ·exact⟨t,by omega,h2⟩
   ·rw[Bool.and_eq_true]at h
    exact⟨j,by omega,h.1,by simpa using h.2⟩
  ·rintro⟨t,h1,h2,h3⟩
   rcases Nat.lt_succ_iff_lt_or_eq.1 h1 with h|rfl
   ·exact .inl ⟨t,h,h2,h3⟩
   ·exact .inr (by rw[Bool.and_eq_true];exact⟨h2,by simpa using h3⟩)
theorem left_all{n:Nat}{nd:Nat→Nat→Bool}{is:Nat→Bool}{ds:List Nat}(h:Ordered n nd is ds):Z62 is ds n=decide (ds.length<Z28 n is):=by
 rw[Bool.eq_iff_iff,Zkc,decide_eq_true_iff];constructor
 ·rintro⟨t,h1,h2,h3⟩
  have h4:(t :: ds).Nodup:=List.nodup_cons.2 ⟨h3,h.nodup⟩;have:=Z1h (b:=(List.range n).filter is) h4 (fun x hx=>by
   rcases List.mem_cons.1 hx with rfl|hx
   ·exact List.mem_filter.2 ⟨List.mem_range.2 h1,h2⟩
   ·exact List.mem_filter.2 ⟨List.mem_range.2 (h.lt x hx),h.is x hx⟩)
  unfold Z28;rw[List.length_cons]at this;exact this
 ·intro hlt
  refine Classical.byContradiction fun hn=>?_
  have:=Z1h (a:=(List.range n).filter is) (b:=ds) (List.nodup_range.filter _) (fun x hx=>by
   obtain⟨h1,h2⟩:=List.mem_filter.1 hx;refine Classical.byContradiction fun h3=>hn ⟨x,List.mem_range.1 h1,h2,h3⟩)
  unfold Z28 at hlt;omega
theorem Zef{w w':World}(h:Ext w w'){b:Nat}(k:Nat)(v:Value)(hb:w.heap.size≤b):Ext w (w'.setCell ⟨b,k,none⟩ v):=h.trans (Only.set (p:=fun i=>i=b) v rfl) (fun _ _ h=>h) (fun i hi e=>by omega)
abbrev TabV(b n:Nat):Value:=.slice (some ⟨b,0,none⟩) n n
theorem Zqc(w:World)(n:Nat)(hn:n≤1000) :
  Calls Tryz.prog 27 #[I n] w (fun e w'=>e=.returned (TabV w.heap.size n)∧Z0s w' w.heap.size 4 n (fun _=>.bool true)∧Ext w w'):=by
 have hmk:=Z50 n (by omega) w
 have HT0:Hid (Z0s (w.alloc (.cells (Array.replicate n (.bool false)) 4 (0,0))) w.heap.size 4 n (fun k=>.bool (decide (k<0)))):=Q0 ((Z0s.made w 4 n (.bool false)).congr (fun k _=>by simp))
 have HX0:Hid (Ext w (w.alloc (.cells (Array.replicate n (.bool false)) 4 (0,0)))):=Q0 (Only.alloc _ _ _);go_enter Tryz.func27,Tryz.ntmps27;go_wp2_with fail;clear hmk;go_loopw [4] (fun i wr=>∃j:Nat,j≤n∧i=.int .i64 j∧Hid (Z0s wr w.heap.size 4 n (fun k=>.bool (decide (k<j))))∧Hid (Ext w wr)) (fun i _=>n-(intOf i).toNat)
 case atStart=>exact⟨0,Nat.zero_le _,rfl,HT0,HX0⟩
 case round=>
  clear HT0 HX0;obtain⟨j,hj,rfl,HT,HX⟩:=hrel;by_cases hlt:j<n
  ·have hltz:(j:Int)<(n:Int):=by omega
   have hj0:(0:Int)≤(j:Int):=by omega
   have hjn:¬(j:Int)<0:=by omega
   have hjl:¬(n:Int)≤(j:Int):=by omega
   have d0:=HT.out.cell hlt;have f0:=HT.out.free j;have HT2:Hid (Z0s (wr.setCell ⟨w.heap.size,j,none⟩ (.bool true)) w.heap.size 4 n (fun k=>.bool (decide (k<j+1)))):=Q0 ((HT.out.set j (.bool true)).congr fun k hk=>by
    by_cases e:k=j
    ·subst e;simp
    ·rw[if_neg e]
     have:(k<j)=(k<j+1):=propext (by omega)
     rw[decide_eq_decide.2 (by omega:k<j↔k<j+1)])
   have HX2:Hid (Ext w (wr.setCell ⟨w.heap.size,j,none⟩ (.bool true))):=Q0 (Zef HX.out _ _ (Nat.le_refl _));go_wp2_with fail;go_roundw
   case rel=>exact⟨j+1,by omega,by go_num,HT2,HX2⟩
   case measure=>simp[intOf];omega
  ·have hltz:¬(j:Int)<(n:Int):=by omega
   go_wp2_with fail;go_ret
   exact⟨rfl,HT.out.congr (fun k hk=>by rw[decide_eq_true (by omega)]),HX.out⟩
structure Zc9(w wr:World)(n:Nat)(v:Value)(ds:List Nat):Prop where
 ext:Ext w wr
 tab:Z0s wr w.heap.size 4 n (fun k=>.bool (decide (k∈ds)))
 row:RowI (w.heap.size+1) wr v ds
theorem Zc9.grow{w wr w':World}{n:Nat}{v:Value}{ds:List Nat}(h:Zc9 w wr n v ds)(ho:Ext wr w'):Zc9 w w' n v ds:=⟨h.ext.then ho,h.tab.ext ho,h.row.ext ho⟩
structure Zqj(w wr:World)(n:Nat)(v:Value)(ds:List Nat)(k:Nat):Prop where
 ext:Ext w wr
 tab:Z0s wr w.heap.size 4 n (fun i=>.bool (decide (i∈ds++[k])))
 row:RowI (w.heap.size+1) wr v ds
 lo:w.heap.size+1≤wr.heap.size
theorem Zc9.mark{w wr:World}{n:Nat}{v:Value}{ds:List Nat}(h:Zc9 w wr n v ds)(k:Nat):Zqj w (wr.setCell ⟨w.heap.size,k,none⟩ (.bool true)) n v ds k:=by
 have ho:Only (fun i=>i=w.heap.size) wr (wr.setCell ⟨w.heap.size,k,none⟩ (.bool true)):=Only.set _ rfl
 refine⟨Zef h.ext _ _ (Nat.le_refl _),(h.tab.set k (.bool true)).congr fun i _=>?_,ho.row h.row (fun i e e2=>by have:=h.row.base i e;omega),?_⟩
 ·by_cases e:i=k
  ·rw[if_pos e,decide_eq_true (by rw[e];simp)]
  ·rw[if_neg e,decide_eq_decide.2 (show i∈ds↔i∈ds++[k] by simp[e])]
 ·have:=h.tab.lt
  simp;omega
theorem Zqj.push{w wr w':World}{n k:Nat}{v v':Value}{ds:List Nat}(h:Zqj w wr n v ds k)(hg:wr.grownBy w' v.ownBlock)(hr:RowI (w.heap.size+1) w' v' (ds++[k])):Zc9 w w' n v' (ds++[k]):=
 ⟨Z55 h.ext (fun i hi=>by have:=h.row.base i hi;omega) hg,h.tab.later (Only.of_grown hg) (fun e=>by have:=h.row.base _ e;omega),hr⟩
theorem Zax(w:World)(l:List Rule)(v:Value)(tb:Nat)(is:Nat→Bool)(hv:RdR w v l)(hn:l.length≤1000)(ht:Z0s w tb 4 l.length (fun k=>.bool (is k))) :
  Calls Tryz.prog 26 #[v,TabV tb l.length] w (Z6s (Z3w l.length (Z07 l) is) w):=by
 have HRD:=Q0 hv;have HT:=Q0 ht;obtain⟨a,cap,rfl,_,_,_⟩:=hv;have hmk:=Z50 l.length (by omega) w
 have HO0:Hid (Zc9 w (w.alloc (.cells (Array.replicate l.length (.bool false)) 4 (0,0))) l.length (.slice none 0 0) []):=Q0 ⟨Only.alloc _ _ _,(Z0s.made w 4 l.length (.bool false)).congr (fun k _=>by simp),RowI.nil _ _⟩
 clear ht;go_enter Tryz.func26,Tryz.ntmps26;go_wp2_with fail;clear hmk;go_loopg [6,8,9,10,11,12] l.length (fun g q _ _ _ _ _ wr=>∃(ds:List Nat)(qv:Value),qv=q∧l.length-ds.length=g∧Hid (Zc9 w wr l.length qv ds)∧Hid (Ordered l.length (Z07 l) is ds)∧Hid (Z1g l.length (Z07 l) is (l.length-ds.length) ds=Z3w l.length (Z07 l) is))
 case atStart=>exact⟨[],_,rfl,rfl,HO0,Q0 (Ordered.nil _ _ _),Q0 rfl⟩
 case round=>
  clear HO0;obtain⟨ds,qv,rfl,hg,HO,HOR,HGO⟩:=hrel;have HG:=Q0 hg;clear hg;go_wp2_with fail;go_loopw [8,9,10,11,12] (fun x f i _ _ wx=>∃j:Nat,j≤l.length∧x=I (Z9u (Z52 l.length (Z07 l) is ds j))∧f=.bool (Z62 is ds j)∧i=.int .i64 j∧Hid (Zc9 w wx l.length qv ds)) (fun _ _ i _ _ _=>l.length-(intOf i).toNat)
  case atStart=>exact⟨0,Nat.zero_le _,rfl,rfl,rfl,HO⟩
  case round=>
   clear HO;obtain⟨j,hj,rfl,rfl,rfl,HO⟩:=hrel;by_cases hlt:j<l.length
   ·have hltz:(j:Int)<(l.length:Int):=by omega
    have hj0:(0:Int)≤(j:Int):=by omega
    have HLT:=Q0 hlt;have d1:=HO.out.tab.cell hlt;have d2:=HO.out.ext.cellOf (HT.out.cell hlt) (fun h=>h)
    obtain⟨nx,hnx⟩:∃nx,nx=Z52 l.length (Z07 l) is ds j:=⟨_,rfl⟩;obtain⟨lf,hlf⟩:∃lf,lf=Z62 is ds j:=⟨_,rfl⟩;rw[←hnx,←hlf];have HNX:Hid (Z52 l.length (Z07 l) is ds (j+1)=Zcs l.length (Z07 l) is ds j nx):=Q0 (by subst hnx;rfl)
    have HLF:Hid (Z62 is ds (j+1)=(lf || (is j&&!decide (j∈ds)))):=Q0 (by rw[hlf];rfl)
    clear hnx hlf hlt;by_cases hds:j∈ds
    ·have HN2:Hid (nx=Z52 l.length (Z07 l) is ds (j+1)):=Q0 (by rw[HNX.out];cases nx with|some k=>rfl|none=>unfold Zcs;rw[Zkl (.inl hds)];rfl)
     have HL2:Hid (lf=Z62 is ds (j+1)):=Q0 (by rw[HLF.out,decide_eq_true hds];simp)
     rw[decide_eq_true hds]at d1;clear hds;go_wp2_with fail;go_roundw
     case rel=>exact⟨j+1,HLT.out,by rw[HN2.out],by rw[HL2.out],by go_num,HO⟩
     case measure=>have:=HLT.out;simp[intOf];omega
    ·rw[decide_eq_false hds]at d1
     cases his:is j with
     | false=>
      have HN2:Hid (nx=Z52 l.length (Z07 l) is ds (j+1)):=Q0 (by rw[HNX.out];cases nx with|some k=>rfl|none=>unfold Zcs;rw[Zkl (.inr his)];rfl)
      have HL2:Hid (lf=Z62 is ds (j+1)):=Q0 (by rw[HLF.out,his];simp)
      rw[his]at d2;clear hds his;go_wp2_with fail;go_roundw
      case rel=>exact⟨j+1,HLT.out,by rw[HN2.out],by rw[HL2.out],by go_num,HO⟩
      case measure=>have:=HLT.out;simp[intOf];omega
     | true=>
      have HFR:=Q0 (free_fr (n:=l.length) (nd:=Z07 l) his hds);have HL2:Hid (true=Z62 is ds (j+1)):=Q0 (by rw[HLF.out,his,decide_eq_false hds];simp)
      rw[his]at d2;clear hds his;go_wp2_with fail;clear d1 d2;go_loopw [11,12] (fun f k wy=>∃t:Nat,t≤l.length∧f=.bool (frTo (Z07 l) ds j t)∧k=.int .i64 t∧Hid (Zc9 w wy l.length qv ds)) (fun _ k _=>l.length-(intOf k).toNat)
      case atStart=>exact⟨0,Nat.zero_le _,rfl,rfl,HO⟩
      case round=>
       clear HO;obtain⟨t,ht,rfl,rfl,HO⟩:=hrel;by_cases htl:t<l.length
       ·have htz:(t:Int)<(l.length:Int):=by omega
        have ht0:(0:Int)≤(t:Int):=by omega
        have HTL:=Q0 htl;have d3:=HO.out.tab.cell htl;have hnr:=Z40 wr _ l j t HLT.out htl (HRD.out.ext HO.out.ext);obtain⟨fr,hfr⟩:∃fr,fr=frTo (Z07 l) ds j t:=⟨_,rfl⟩;rw[←hfr];have HF2:Hid (frTo (Z07 l) ds j (t+1)=(fr&&!(!decide (t∈ds)&&Z07 l j t))):=Q0 (by rw[hfr];rfl)
        clear hfr htl;by_cases hds:t∈ds
        ·have HF3:Hid (fr=frTo (Z07 l) ds j (t+1)):=Q0 (by rw[HF2.out,decide_eq_true hds];simp)
         rw[decide_eq_true hds]at d3;clear hds hnr;go_wp2_with fail;go_roundw
         case rel=>exact⟨t+1,HTL.out,by rw[HF3.out],by go_num,HO⟩
         case measure=>have:=HTL.out;simp[intOf];omega
        ·rw[decide_eq_false hds]at d3
         cases hq:Z07 l j t with
         | false=>
          have HF3:Hid (fr=frTo (Z07 l) ds j (t+1)):=Q0 (by rw[HF2.out,hq];simp)
          rw[hq]at hnr;have HNR:=Q0 hnr;clear hds hq hnr;go_wp2_with fail;refine HNR.out.mono ?_;rintro e w3 ⟨rfl,ho⟩;have HO3:=Q0 (HO.out.grow ho);clear ho;go_wp2_with fail;go_roundw
          case rel=>exact⟨t+1,HTL.out,by rw[HF3.out],by go_num,HO3⟩
          case measure=>have:=HTL.out;simp[intOf];omega
         | true=>
          have HF3:Hid (false=frTo (Z07 l) ds j (t+1)):=Q0 (by rw[HF2.out,hq,decide_eq_false hds];simp)
          rw[hq]at hnr;have HNR:=Q0 hnr;clear hds hq hnr;go_wp2_with fail;refine HNR.out.mono ?_;rintro e w3 ⟨rfl,ho⟩;have HO3:=Q0 (HO.out.grow ho);clear ho;go_wp2_with fail;go_roundw
          case rel=>exact⟨t+1,HTL.out,by rw[HF3.out],by go_num,HO3⟩
          case measure=>have:=HTL.out;simp[intOf];omega
       ·have htz:¬(t:Int)<(l.length:Int):=by omega
        obtain rfl:t=l.length:=by omega
        obtain⟨fr,hfr⟩:∃fr,fr=frTo (Z07 l) ds j l.length:=⟨_,rfl⟩;rw[←hfr];have hnx:=HNX.out;have hfe:=HFR.out;rw[←hfr]at hfe;unfold Zcs at hnx;rw[hfe]at hnx;clear hfr htl hfe;cases nx with
        | some k=>
         have HN2:Hid (some k=Z52 l.length (Z07 l) is ds (j+1)):=Q0 (by rw[hnx])
         have hkz:¬(Z9u (some k))<0:=by show ¬((k:Int)<0);omega
         clear hnx;cases fr
         all_goals
          go_wp2_with fail;go_roundw
          case rel=>exact⟨j+1,HLT.out,by rw[←HN2.out],by rw[←HL2.out],by go_num,HO⟩
          case measure=>have:=HLT.out;simp[intOf];omega
        | none=>
         have hkz:(Z9u none)<0:=by show (-1:Int)<0;omega
         cases fr with
         | false=>
          have HN2:Hid (none=Z52 l.length (Z07 l) is ds (j+1)):=Q0 (by rw[hnx];rfl)
          clear hnx;go_wp2_with fail;go_roundw
          case rel=>exact⟨j+1,HLT.out,by rw[←HN2.out],by rw[←HL2.out],by go_num,HO⟩
          case measure=>have:=HLT.out;simp[intOf];omega
         | true=>
          have HN2:Hid (some j=Z52 l.length (Z07 l) is ds (j+1)):=Q0 (by rw[hnx];rfl)
          clear hnx;go_wp2_with fail;go_roundw
          case rel=>exact⟨j+1,HLT.out,by rw[←HN2.out];rfl,by rw[←HL2.out],by go_num,HO⟩
          case measure=>have:=HLT.out;simp[intOf];omega
   ·have hltz:¬(j:Int)<(l.length:Int):=by omega
    obtain rfl:j=l.length:=by omega
    rw[left_all HOR.out,next_all];clear hlt hj;by_cases hlen:ds.length<Z28 l.length is
    ·rw[decide_eq_true hlen]
     cases hnx:Z6v l.length (Z07 l) is ds with
     | none=>
      have hkz:(Z9u none)<0:=by show (-1:Int)<0;omega
      have HB:Hid (Z3w l.length (Z07 l) is=none):=Q0 (by rw[←HGO.out];exact Zii hlen hnx)
      clear hnx hlen;go_wp2_with fail;go_ret2;rw[HB.out];exact⟨_,rfl,RowI.nil _ _,HO.out.ext⟩
     | some k=>
      have hkz:¬(Z9u (some k))<0:=by show ¬((k:Int)<0);omega
      have HGO2:Hid (Z1g l.length (Z07 l) is (l.length-(ds++[k]).length) (ds++[k])=Z3w l.length (Z07 l) is):=Q0 (by rw[←HGO.out];exact(Zih hlen hnx).symm)
      have HOR2:=Q0 (HOR.out.next hnx);have hkl:=(Z6m hnx).1;have hlm:ds.length<l.length:=Nat.lt_of_lt_of_le hlen (Z4o _ _);have hk1:¬(k:Int)<0:=by omega
      have hk2:(k:Int)<(l.length:Int):=by omega
      have hk3:¬(l.length:Int)≤(k:Int):=by omega
      have d1:=HO.out.tab.cell hkl;have f1:=HO.out.tab.free k;have HM:=Q0 (HO.out.mark k);have HSZ:Hid ((wr.setCell ⟨w.heap.size,k,none⟩ (.bool true)).heap.size=wr.heap.size):=Q0 (by simp)
      have hm1:Z9u (some k)=(k:Int):=rfl
      have hk0:(0:Int)≤(k:Int):=by omega
      rw[hm1];rw[hm1]at hkz;clear hnx hlen HOR HGO hm1;go_wp2_with (at_builtin;refine Zni rfl (.tmp 64) (.tmp 66) w (w.heap.size+1) _ ds k (wr.setCell ⟨w.heap.size,k,none⟩ (.bool true)) wr.heap.size (by simp) rfl rfl rfl rfl HM.out.row (by omega) HM.out.lo HM.out.ext (Nat.le_succ _) ?_;intro g5 cap5 w5 HR5 _ HG5;have HP5:=Q0 (HM.out.push HG5.out HR5.out))
      go_roundg (l.length-(ds++[k]).length)
      case measure=>rw[←HG.out,List.length_append];simp;omega
      case rel=>exact⟨ds++[k],_,rfl,rfl,HP5,HOR2,HGO2⟩
    ·rw[decide_eq_false hlen]
     have HB:Hid (Z3w l.length (Z07 l) is=some ds):=Q0 (by rw[←HGO.out];exact Zij hlen)
     clear hlen;go_wp2_with fail;go_ret2;rw[HB.out];exact⟨_,rfl,HO.out.row.down (Nat.le_succ _),HO.out.ext⟩
end Go.Proofs.YtnmhaipjfpongacGreatDoor
