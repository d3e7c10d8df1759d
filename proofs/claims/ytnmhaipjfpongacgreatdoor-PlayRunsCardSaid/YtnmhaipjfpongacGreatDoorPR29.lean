/- A part of this claim's proof;each theorem bears its own conditions. -/
import Derived.Test.YtnmhaipjfpongacGreatDoorPR28
set_option maxRecDepth 100000
set_option maxHeartbeats 8000000
namespace Go.Proofs.YtnmhaipjfpongacGreatDoor
open Go.ChangeShapes Go.WideShapes Go.ChangeAt Go.RowKit
def Zbv(n:Nat)(nd:Nat→Nat→Bool)(f:Nat→Bool):Prop:=∀i k,i<n→k<n→f i=true→nd i k=true→f k=true
structure Rnd(n:Nat)(nd:Nat→Nat→Bool)(f g:Nat→Bool)(i k:Nat):Prop where
 up:∀x,x<n→f x=true→g x=true
 low:∀S:Nat→Bool,Zbv n nd S→(∀x,x<n→f x=true→S x=true)→∀x,x<n→g x=true→S x=true
 did:∀a b,a<n→b<n→(a<i∨(a=i∧b<k))→f a=true→nd a b=true→g b=true
section
variable {n:Nat}{nd:Nat→Nat→Bool}{f g:Nat→Bool}{i k:Nat}
theorem Rnd.start(n:Nat)(nd:Nat→Nat→Bool)(f:Nat→Bool):Rnd n nd f f 0 0:=⟨fun _ _ h=>h,fun _ _ h=>h,fun a b _ _ h=>by omega⟩
theorem Rnd.skip(h:Rnd n nd f g i k)(hn:g i=false∨nd i k=false)(hi:i<n):Rnd n nd f g i (k+1):=by
 refine⟨h.up,h.low,fun a b ha hb hab hf hnd=>?_⟩
 rcases hab with h1|⟨rfl,h1⟩
 ·exact h.did a b ha hb (.inl h1) hf hnd
 ·rcases Nat.lt_succ_iff_lt_or_eq.1 h1 with h2|rfl
  ·exact h.did a b ha hb (.inr ⟨rfl,h2⟩) hf hnd
  ·rcases hn with e|e
   ·rw[h.up a ha hf]at e;cases e
   ·rw[hnd]at e;cases e
theorem Rnd.mark(h:Rnd n nd f g i k)(hg:g i=true)(hnd:nd i k=true)(hi:i<n)(hk:k<n){g':Nat→Bool}(hg':∀x,x<n→g' x=(decide (x=k) || g x)):Rnd n nd f g' i (k+1):=by
 refine⟨fun x hx hf=>?_,fun S hS hs x hx hgx=>?_,fun a b ha hb hab hf hn=>?_⟩
 ·rw[hg' x hx,h.up x hx hf,Bool.or_true]
 ·rw[hg' x hx,Bool.or_eq_true,decide_eq_true_iff]at hgx
  rcases hgx with rfl|hgx
  ·exact hS i x hi hx (h.low S hS hs i hi hg) hnd
  ·exact h.low S hS hs x hx hgx
 ·rw[hg' b hb,Bool.or_eq_true,decide_eq_true_iff]
  rcases hab with h1|⟨rfl,h1⟩
  ·exact .inr (h.did a b ha hb (.inl h1) hf hn)
  ·rcases Nat.lt_succ_iff_lt_or_eq.1 h1 with h2|rfl
   ·exact .inr (h.did a b ha hb (.inr ⟨rfl,h2⟩) hf hn)
   ·exact .inl rfl
theorem Rnd.line(h:Rnd n nd f g i n):Rnd n nd f g (i+1) 0:=
 ⟨h.up,h.low,fun a b ha hb hab hf hn=>h.did a b ha hb (by
  rcases hab with h1|⟨_,h1⟩
  ·rcases Nat.lt_succ_iff_lt_or_eq.1 h1 with h2|h2
   ·exact .inl h2
   ·exact .inr ⟨h2,hb⟩
  ·omega) hf hn⟩
structure Rds(n:Nat)(nd:Nat→Nat→Bool)(f0 f:Nat→Bool)(r:Nat):Prop where
 up:∀x,x<n→f0 x=true→f x=true
 low:∀S:Nat→Bool,Zbv n nd S→(∀x,x<n→f0 x=true→S x=true)→∀x,x<n→f x=true→S x=true
 far:Zbv n nd f∨r≤(List.range n).countP f
theorem Rds.start(n:Nat)(nd:Nat→Nat→Bool)(f:Nat→Bool):Rds n nd f f 0:=⟨fun _ _ h=>h,fun _ _ h=>h,.inr (Nat.zero_le _)⟩
theorem Zd7{f g:Nat→Bool}(hup:∀x,x<n→f x=true→g x=true){k:Nat}(hk:k<n)(h1:f k=false)(h2:g k=true):(List.range n).countP f+1≤(List.range n).countP g:=by
 rw[List.countP_eq_length_filter,List.countP_eq_length_filter];have h3:(k :: (List.range n).filter f).Nodup:=List.nodup_cons.2 ⟨(fun hm=>by have:=(List.mem_filter.1 hm).2;rw[h1]at this;cases this),List.nodup_range.filter _⟩
 have:=Z1h (b:=(List.range n).filter g) h3 (fun x hx=>by
  rcases List.mem_cons.1 hx with rfl|hx
  ·exact List.mem_filter.2 ⟨List.mem_range.2 hk,h2⟩
  ·obtain⟨h4,h5⟩:=List.mem_filter.1 hx
   exact List.mem_filter.2 ⟨h4,hup x (List.mem_range.1 h4) h5⟩)
 simpa using this
theorem Rds.next{f0:Nat→Bool}{r:Nat}(h:Rds n nd f0 f r)(hr:Rnd n nd f g n 0):Rds n nd f0 g (r+1):=by
 refine⟨fun x hx h0=>hr.up x hx (h.up x hx h0),fun S hS hs=>hr.low S hS (h.low S hS hs),?_⟩
 by_cases hc:Zbv n nd f
 ·refine .inl fun i k hi hk hg hn=>?_
  have:=hr.low f hc (fun _ _ h=>h) i hi hg
  exact hr.up k hk (hc i k hi hk this hn)
 ·right
  have hcn:r≤(List.range n).countP f:=h.far.resolve_left hc;have hex:∃i k,i<n∧k<n∧f i=true∧nd i k=true∧f k=false:=by
   refine Classical.byContradiction fun hne=>hc fun i k hi hk hf hn=>?_
   cases hfk:f k with
   | true=>rfl
   | false=>exact absurd ⟨i,k,hi,hk,hf,hn,hfk⟩ hne
  obtain⟨i,k,hi,hk,hf,hn,hfk⟩:=hex;have:=Zd7 hr.up hk hfk (hr.did i k hi hk (.inl hi) hf hn);omega
theorem Rds.done{f0:Nat→Bool}(h:Rds n nd f0 f n):Zbv n nd f:=by
 rcases h.far with h|h
 ·exact h
 ·intro i k _ hk _ _
  have h1:(List.range n).countP f=(List.range n).length:=Nat.le_antisymm List.countP_le_length (by rw[List.length_range];exact h)
  exact List.countP_eq_length.1 h1 k (List.mem_range.2 hk)
end
theorem Zo6{l:List Rule}{outs:List B}{f0 f:Nat→Bool}(hr:Z34 l)(hb:Z57 l outs=none)(h0:∀k,k<l.length→(f0 k=true↔∃r,l[k]?=some r∧r.out∈outs))(h:Rds l.length (Z07 l) f0 f l.length):∀k,k<l.length→f k=Z51 l outs k:=by
 have hroot:∀k,k<l.length→(f0 k=true↔k∈Z5p l outs):=fun k hk=>by
  rw[h0 k hk];unfold Z5p;rw[List.mem_map];constructor
  ·rintro⟨r,hq,hm⟩
   exact⟨r.out,hm,Ze3 hr.2.2 hq⟩
  ·rintro⟨s,hs,rfl⟩
   have hmade:Z35 l s=true:=by
    unfold Z57 at hb;rw[List.findIdx?_eq_none_iff]at hb;simpa using hb s hs
   obtain⟨j,r,hq,rfl⟩:=Zp0 hmade;rw[Ze3 hr.2.2 hq];exact⟨r,hq,hs⟩
 intro k hk
 rw[Bool.eq_iff_iff,Z2u];constructor
 ·intro hf
  exact Z2u.1 (h.low (Z51 l outs) (fun i j _ _ hi hn=>Z2u.2 (.step (Z2u.1 hi) hn)) (fun x hx hx0=>Z2u.2 (.root ((hroot x hx).1 hx0))) k hk hf)
 ·intro hre
  have key:∀j,Reach (Z07 l) (Z5p l outs) j→j<l.length→f j=true:=by
   intro j hj
   induction hj with
   | root hm=>exact fun hl=>h.up _ hl ((hroot _ hl).2 hm)
   | step _ hn ih=>exact fun hl=>h.done _ _ (Z5g hn).1 hl (ih (Z5g hn).1) hn
  exact key k hre hk
structure Z6e(w wr:World)(n:Nat)(f:Nat→Bool):Prop where
 ext:Ext w wr
 tab:Z0s wr w.heap.size 4 n (fun k=>.bool (f k))
theorem Z6e.grow{w wr w':World}{n:Nat}{f:Nat→Bool}(h:Z6e w wr n f)(ho:Ext wr w'):Z6e w w' n f:=⟨h.ext.then ho,h.tab.ext ho⟩
theorem Z6e.mark{w wr:World}{n:Nat}{f:Nat→Bool}(h:Z6e w wr n f)(k:Nat):Z6e w (wr.setCell ⟨w.heap.size,k,none⟩ (.bool true)) n (fun x=>decide (x=k) || f x):=by
 refine⟨Zef h.ext _ _ (Nat.le_refl _),(h.tab.set k (.bool true)).congr fun i _=>?_⟩
 by_cases e:i=k
 ·rw[if_pos e,decide_eq_true e];rfl
 ·rw[if_neg e,decide_eq_false e];rfl
theorem Z6e.same{w wr:World}{n:Nat}{f g:Nat→Bool}(h:Z6e w wr n f)(hg:∀k,k<n→f k=g k):Z6e w wr n g:=⟨h.ext,h.tab.congr fun k hk=>by rw[hg k hk]⟩
def Z8t(l:List Rule)(outs:List B)(k:Nat):Bool:=match l[k]? with|some r=>decide (r.out∈outs)|none=>false
theorem Zk3{l:List Rule}{outs:List B}{k:Nat}:Z8t l outs k=true↔∃r,l[k]?=some r∧r.out∈outs:=by
 unfold Z8t;cases l[k]? with
 | some r=>simp
 | none=>simp
def Z5w(l:List Rule)(outs:List B)(s:B)(t k:Nat):Bool:=Z8t l outs k || (decide (k<t)&&Z8t l [s] k)
def RetNed(l:List Rule)(outs:List B)(w:World)(e:Ending)(w':World):Prop:=Ext w w'∧
 ((∃i:Nat,Z57 l outs=some i∧e=.returned (.tuple #[.slice none 0 0,IN i]))∨(Z57 l outs=none∧∃tb,e=.returned (.tuple #[TabV tb l.length,I (-1)])∧Z0s w' tb 4 l.length (fun k=>.bool (Z51 l outs k))))
theorem Ziq{l:List Rule}{s:B}{t:Nat}{r:Rule}(hr:l[t]?=some r):(l.take (t+1)).any (fun r=>r.out==s)=((l.take t).any (fun r=>r.out==s) || r.out==s):=by
 rw[List.take_add_one,hr,List.any_append];simp
theorem Z9i(w:World)(l:List Rule)(outs:List B)(v vo:Value)(hv:RdR w v l)(hvo:Rd S w vo outs)(hr:Z34 l) :
  Calls Tryz.prog 119 #[v,vo] w (RetNed l outs w):=by
 have HRD:=Q0 hv;have HRS:=Q0 hr;obtain⟨a,cap,rfl,_,_,hc⟩:=hv;obtain⟨ao,co,rfl,_,hmo,hco⟩:=hvo;have HC:=Q0 hc;have HCO:=Q0 hco;have hl40:l.length≤40:=hr.1;have hol:outs.length≤9223372036854775807:=by unfold maxLen at hmo;omega
 have hmk:=Z50 l.length (by omega) w
 have HN0:Hid (Z6e w (w.alloc (.cells (Array.replicate l.length (.bool false)) 4 (0,0))) l.length (Z8t l [])):=Q0 ⟨Only.alloc _ _ _,(Z0s.made w 4 l.length (.bool false)).congr (fun k _=>by
  have:Z8t l [] k=false:=by rw[←Bool.not_eq_true,Zk3];simp
  rw[this])⟩
 clear hc hco hmo hr;go_enter Tryz.func119,Tryz.ntmps119;go_wp2_with fail;clear hmk;go_loopw [7,8,9] (fun i _ _ wr=>∃j:Nat,j≤outs.length∧i=.int .i64 j∧Hid (Z6e w wr l.length (Z8t l (outs.take j)))∧Hid (∀x∈outs.take j,Z35 l x=true)) (fun i _ _ _=>outs.length-(intOf i).toNat)
 case atStart=>exact⟨0,Nat.zero_le _,rfl,HN0,Q0 (fun x h=>by simp at h)⟩
 case round=>
  clear HN0;obtain⟨j,hj,rfl,HN,HMD⟩:=hrel;by_cases hlt:j<outs.length
  ·have hltz:(j:Int)<(outs.length:Int):=by omega
   have hj0:(0:Int)≤(j:Int):=by omega
   have hjn:¬(j:Int)<0:=by omega
   have hjl:¬(outs.length:Int)≤(j:Int):=by omega
   obtain⟨bo,oo,rfl,hcello⟩:=HCO.out (by intro h;rw[h]at hlt;simp at hlt)
   obtain⟨s,hs⟩:∃y,outs[j]?=some y:=⟨_,Q1 hlt⟩;have HD:=Q0 (hcello j s hs);have HTK:Hid (outs.take (j+1)=outs.take j++[s]):=Q0 (by rw[List.take_add_one,hs];rfl)
   have HSJ:=Q0 hs;have HLT:=Q0 hlt;have HN1:Hid (Z6e w wr l.length (Z5w l (outs.take j) s 0)):=Q0 (HN.out.same (fun k _=>by unfold Z5w;simp))
   clear hcello hs hlt;go_wp2_with fail;go_loopw [8,9] (fun f i wx=>∃t:Nat,t≤l.length∧f=.bool ((l.take t).any fun r=>r.out==s)∧i=.int .i64 t∧Hid (Z6e w wx l.length (Z5w l (outs.take j) s t))) (fun _ i _=>l.length-(intOf i).toNat)
   case atStart=>exact⟨0,Nat.zero_le _,rfl,rfl,HN1⟩
   case round=>
    clear HN1 HN;obtain⟨t,ht,rfl,rfl,HN⟩:=hrel;by_cases htl:t<l.length
    ·have htz:(t:Int)<(l.length:Int):=by omega
     have ht0:(0:Int)≤(t:Int):=by omega
     have htn:¬(t:Int)<0:=by omega
     have htl2:¬(l.length:Int)≤(t:Int):=by omega
     obtain⟨b,off,rfl,hcell⟩:=HC.out (by intro h;rw[h]at htl;simp at htl)
     obtain⟨r,hq⟩:∃y,l[t]?=some y:=⟨_,Q1 htl⟩;obtain⟨u,hu,c0,c1,c2,c3⟩:=hcell t r hq;have d0:=HN.out.ext.cellOf c0 (fun h=>h)
     have d1:=HN.out.ext.cellOf HD.out (fun h=>h)
     have d2:=fun n=>(HN.out.grow (Only.drewN _ _ n)).tab.cell htl
     have f2:=fun n=>(HN.out.grow (Only.drewN _ _ n)).tab.free t
     have HMT:=Q0 (Ziq (s:=s) hq);have hrb:Z8t l [s] t=(r.out==s):=by unfold Z8t;rw[hq];rw[Bool.eq_iff_iff];simp
     have HTL:=Q0 htl;have hsame:∀k,k<l.length→k≠t→Z5w l (outs.take j) s (t+1) k=Z5w l (outs.take j) s t k:=fun k _ hk=>by
      unfold Z5w;rw[decide_eq_decide.2 (show k<t+1↔k<t by omega)]
     have HSM:=Q0 hsame;generalize hmt:(l.take t).any (fun r=>r.out==s)=mt at HMT ⊢
     clear hcell hu c0 c1 c2 c3 hsame hmt;cases heq:r.out==s with
     | true=>
      have HM2:Hid (true=(l.take (t+1)).any fun r=>r.out==s):=Q0 (by rw[HMT.out,heq];simp)
      have HN2:=Q0 (fun n=>((HN.out.grow (Only.drewN _ _ n)).mark t).same (g:=Z5w l (outs.take j) s (t+1)) (fun k hk=>by
       by_cases e:k=t
       ·subst e
        rw[decide_eq_true rfl,Bool.true_or];unfold Z5w;rw[hrb,heq,decide_eq_true (Nat.lt_succ_self k)];simp
       ·rw[decide_eq_false e,Bool.false_or,HSM.out k hk e]))
      clear hq hrb;go_wp2_with fail;go_quiet (fail);go_wp2_with fail;go_roundw
      case rel=>exact⟨t+1,HTL.out,by rw[←HM2.out],by go_num,Q0 (HN2.out _)⟩
      case measure=>have:=HTL.out;simp[intOf];omega
     | false=>
      have HM2:Hid (mt=(l.take (t+1)).any fun r=>r.out==s):=Q0 (by rw[HMT.out,heq];simp)
      have HN2:=Q0 (fun n=>(HN.out.grow (Only.drewN _ _ n)).same (g:=Z5w l (outs.take j) s (t+1)) (fun k hk=>by
       by_cases e:k=t
       ·subst e
        unfold Z5w;rw[hrb,heq];simp
       ·rw[HSM.out k hk e]))
      clear hq hrb;go_wp2_with fail;go_quiet (fail);go_wp2_with fail;go_roundw
      case rel=>exact⟨t+1,HTL.out,by rw[←HM2.out],by go_num,Q0 (HN2.out _)⟩
      case measure=>have:=HTL.out;simp[intOf];omega
    ·have htz:¬(t:Int)<(l.length:Int):=by omega
     obtain rfl:t=l.length:=by omega
     rw[List.take_length];cases hmade:l.any fun r=>r.out==s with
     | false=>
      have HB:Hid (Z57 l outs=some j):=Q0 (Zpy HSJ.out hmade HMD.out)
      clear hmade;go_wp2_with fail;go_ret2;exact⟨HN.out.ext,.inl ⟨j,HB.out,rfl⟩⟩
     | true=>
      have HMD2:Hid (∀x∈outs.take (j+1),Z35 l x=true):=Q0 (fun x hx=>by
       rw[HTK.out]at hx;rcases List.mem_append.1 hx with hx|hx
       ·exact HMD.out x hx
       ·rw[List.mem_singleton.1 hx];exact hmade)
      have HN2:Hid (Z6e w wr l.length (Z8t l (outs.take (j+1)))):=Q0 (HN.out.same (fun k hk=>by
       rw[HTK.out];unfold Z5w;rw[decide_eq_true hk,Bool.true_and];unfold Z8t;rw[Q1 hk];simp[Bool.decide_or]))
      clear hmade;go_wp2_with fail;go_roundw
      case rel=>exact⟨j+1,HLT.out,by go_num,HN2,HMD2⟩
      case measure=>have:=HLT.out;simp[intOf];omega
  ·have hltz:¬(j:Int)<(outs.length:Int):=by omega
   rw[List.take_of_length_le (by omega)]at HN HMD
   have HB:Hid (Z57 l outs=none):=Q0 (by
    unfold Z57;rw[List.findIdx?_eq_none_iff];intro x hx;rw[HMD.out x hx];rfl)
   have HF0:=Q0 (fun(f:Nat→Bool) (h:Rds l.length (Z07 l) (Z8t l outs) f l.length)=>Zo6 HRS.out HB.out (fun k _=>Zk3) h)
   generalize Z8t l outs=f0 at HN HF0;clear HMD hlt hj HC HCO;go_wp2_with fail;go_loopw [10,11,12] (fun i _ _ wx=>∃(j:Nat)(f:Nat→Bool),j≤l.length∧i=.int .i64 j∧Hid (Z6e w wx l.length f)∧Hid (Rds l.length (Z07 l) f0 f j)) (fun i _ _ _=>l.length-(intOf i).toNat)
   case atStart=>exact⟨0,f0,Nat.zero_le _,rfl,HN,Q0 (Rds.start _ _ _)⟩
   case round=>
    clear HN;obtain⟨j,f,hj,rfl,HN,HRD1⟩:=hrel;by_cases hlt:j<l.length
    ·have hltz:(j:Int)<(l.length:Int):=by omega
     have HLT:=Q0 hlt;clear hlt;go_wp2_with fail;go_loopw [11,12] (fun i _ wx=>∃(t:Nat)(g:Nat→Bool),t≤l.length∧i=.int .i64 t∧Hid (Z6e w wx l.length g)∧Hid (Rnd l.length (Z07 l) f g t 0)) (fun i _ _=>l.length-(intOf i).toNat)
     case atStart=>exact⟨0,f,Nat.zero_le _,rfl,HN,Q0 (Rnd.start _ _ _)⟩
     case round=>
      clear HN;obtain⟨t,g,ht,rfl,HN,HR1⟩:=hrel;by_cases htl:t<l.length
      ·have htz:(t:Int)<(l.length:Int):=by omega
       have HTL:=Q0 htl;clear htl;go_wp2_with fail;go_loopw [12] (fun i wx=>∃(k:Nat)(g:Nat→Bool),k≤l.length∧i=.int .i64 k∧Hid (Z6e w wx l.length g)∧Hid (Rnd l.length (Z07 l) f g t k)) (fun i _=>l.length-(intOf i).toNat)
       case atStart=>exact⟨0,g,Nat.zero_le _,rfl,HN,HR1⟩
       case round=>
        clear HN HR1;obtain⟨k,g,hk,rfl,HN,HR1⟩:=hrel;by_cases hkl:k<l.length
        ·have hkz:(k:Int)<(l.length:Int):=by omega
         have hk0:(0:Int)≤(k:Int):=by omega
         have hk1:¬(k:Int)<0:=by omega
         have hk2:¬(l.length:Int)≤(k:Int):=by omega
         have ht1:¬(t:Int)<0:=by omega
         have ht2:¬(l.length:Int)≤(t:Int):=by omega
         have HKL:=Q0 hkl;have d1:=HN.out.tab.cell HTL.out;have hnr:=Z40 wr _ l t k HTL.out hkl (HRD.out.ext HN.out.ext);clear hkl;cases hg:g t with
         | false=>
          have HR2:=Q0 (HR1.out.skip (.inl hg) HTL.out);rw[hg]at d1;clear hnr hg;go_wp2_with fail;go_roundw
          case rel=>exact⟨k+1,g,HKL.out,by go_num,HN,HR2⟩
          case measure=>have:=HKL.out;simp[intOf];omega
         | true=>
          rw[hg]at d1;cases hq:Z07 l t k with
          | false=>
           have HR2:=Q0 (HR1.out.skip (.inr hq) HTL.out);rw[hq]at hnr;have HNR:=Q0 hnr;clear hnr hg hq;go_wp2_with fail;refine HNR.out.mono ?_;rintro e w3 ⟨rfl,ho⟩;have HN3:=Q0 (HN.out.grow ho);clear ho;go_wp2_with fail;go_roundw
           case rel=>exact⟨k+1,g,HKL.out,by go_num,HN3,HR2⟩
           case measure=>have:=HKL.out;simp[intOf];omega
          | true=>
           have HR2:=Q0 (HR1.out.mark hg hq HTL.out HKL.out (g':=fun x=>decide (x=k) || g x) (fun _ _=>rfl))
           rw[hq]at hnr;have HNR:=Q0 hnr;clear hnr hg hq;go_wp2_with fail;refine HNR.out.mono ?_;rintro e w3 ⟨rfl,ho⟩;have hn3:=HN.out.grow ho;have d2:=hn3.tab.cell HKL.out;have f2:=hn3.tab.free k;have HN3:=Q0 (hn3.mark k);clear ho hn3;go_wp2_with fail;go_roundw
           case rel=>exact⟨k+1,_,HKL.out,by go_num,HN3,HR2⟩
           case measure=>have:=HKL.out;simp[intOf];omega
        ·have hkz:¬(k:Int)<(l.length:Int):=by omega
         obtain rfl:k=l.length:=by omega
         have HR2:=Q0 HR1.out.line;go_wp2_with fail;go_roundw
         case rel=>exact⟨t+1,g,HTL.out,by go_num,HN,HR2⟩
         case measure=>have:=HTL.out;simp[intOf];omega
      ·have htz:¬(t:Int)<(l.length:Int):=by omega
       obtain rfl:t=l.length:=by omega
       have HR2:=Q0 (HRD1.out.next HR1.out);go_wp2_with fail;go_roundw
       case rel=>exact⟨j+1,g,HLT.out,by go_num,HN,HR2⟩
       case measure=>have:=HLT.out;simp[intOf];omega
    ·have hltz:¬(j:Int)<(l.length:Int):=by omega
     obtain rfl:j=l.length:=by omega
     have HF:=Q0 (HF0.out f HRD1.out);go_wp2_with fail;go_ret2;exact⟨HN.out.ext,.inr ⟨HB.out,_,rfl,HN.out.tab.congr (fun k hk=>by rw[HF.out k hk])⟩⟩
end Go.Proofs.YtnmhaipjfpongacGreatDoor
