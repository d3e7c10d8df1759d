/- A part of this claim's proof;each theorem bears its own conditions. -/
import Derived.Test.YtnmhaipjfpongacGreatDoorPR18
set_option maxRecDepth 100000
set_option maxHeartbeats 2000000
namespace Go.Proofs.YtnmhaipjfpongacGreatDoor
open Go.ChangeShapes Go.WideShapes Go.ChangeAt Go.RowKit
abbrev SV(q:Option Addr×Nat×Nat):Value:=.slice q.1 q.2.1 q.2.2
abbrev encR(p:Rule×Option Addr×Nat×Nat):List Value:=[S p.1.out,S p.1.kind,S p.1.word,SV p.2]
theorem Zkr(p:Rule×Option Addr×Nat×Nat):∀u∈encR p,u.oneCell'=true:=by
 intro u hu
 simp only[encR,List.mem_cons,List.not_mem_nil,or_false]at hu;rcases hu with rfl|rfl|rfl|rfl <;> rfl
theorem Zkj:(Tryz.prog.info? 55).map (fun i=>(i.zero,i.size,i.bytes))=some (some (.agg #[.string ⟨#[]⟩,.string ⟨#[]⟩,.string ⟨#[]⟩,.slice none 0 0]),4,72):=by kernel_rfl
theorem Z4r(p:Rule×Option Addr×Nat×Nat):(encR p).length=4:=rfl
structure OwnR(w wr:World)(v:Value)(ps:List (Rule×Option Addr×Nat×Nat)):Prop where
 ext:Ext w wr
 row:wr.ownsRow w.heap.size 55 4 v ps.length (ps.flatMap encR)
 texts:∀p∈ps,Rd S wr (SV p.2) p.1.ins∧∀b,(SV p.2).ownBlock=some b→b<wr.heap.size∧v.ownBlock≠some b
theorem OwnR.grow{w wr w':World}{v:Value}{ps:List (Rule×Option Addr×Nat×Nat)}(h:OwnR w wr v ps)(ho:Ext wr w'):OwnR w w' v ps:=
 ⟨h.ext.then ho,ho.row h.row (fun _ _ h=>h),fun p hp=>⟨(h.texts p hp).1.ext ho,fun b hb=>⟨Nat.lt_of_lt_of_le ((h.texts p hp).2 b hb).1 ho.size,((h.texts p hp).2 b hb).2⟩⟩⟩
theorem OwnR.push{w wr w1 w2:World}{v v':Value}{u:Option Addr×Nat×Nat}{ps:List (Rule×Option Addr×Nat×Nat)}{r:Rule}(h:OwnR w wr v ps)(hx:Ext wr w1)(hu:Row wr.heap.size w1 (SV u) r.ins)(hr:w2.ownsRow w.heap.size 55 4 v' (ps.length+1) ((ps++[(r,u)]).flatMap encR))(hg:w1.grownBy w2 v.ownBlock)(ha:∀i,v'.ownBlock=some i→v.ownBlock=some i∨w1.heap.size≤i) :
  OwnR w w2 v' (ps++[(r,u)]):=by
 have ho:Only (fun b=>v.ownBlock=some b) w1 w2:=Only.of_grown hg
 have hb:∀b,v.ownBlock=some b→w.heap.size≤b∧b<wr.heap.size:=fun b e=>h.row.lt b e
 have hw:Ext w w2:=(h.ext.then hx).trans ho (fun _ _ h=>h) (fun i hi e=>by have:=(hb i e).1;omega)
 refine⟨hw,by rw[List.length_append];exact hr,fun p hp=>?_⟩
 rcases List.mem_append.1 hp with hp|hp
 ·obtain⟨h1,h2⟩:=h.texts p hp
  refine⟨(h1.ext hx).later ho (fun b e e2=>(h2 b e).2 e2),fun b e=>⟨Nat.lt_of_lt_of_le (Nat.lt_of_lt_of_le (h2 b e).1 hx.size) ho.size,fun e2=>?_⟩⟩
  rcases ha b e2 with e3|e3
  ·exact(h2 b e).2 e3
  ·have:=(h2 b e).1;have:=hx.size;omega
 ·rw[List.mem_singleton]at hp
  subst hp;refine⟨hu.rd.later ho (fun b e e2=>by have:=(hu.lt b e).1;have:=(hb b e2).2;omega),fun b e=>⟨Nat.lt_of_lt_of_le (hu.lt b e).2 ho.size,fun e2=>?_⟩⟩
  have h3:=hu.lt b e;rcases ha b e2 with e3|e3
  ·have:=(hb b e3).2;omega
  ·omega
theorem OwnR.rd{w wr:World}{v:Value}{ps:List (Rule×Option Addr×Nat×Nat)}{l:List Rule}(h:OwnR w wr v ps)(hl:ps.map Prod.fst=l):RdR wr v l:=by
 have hs:=RdS.of_row Z4r h.row;obtain⟨a,cap,h1,h2,h3,h4⟩:=hs;have hlen:ps.length=l.length:=by rw[←hl,List.length_map]
 refine⟨a,cap,by rw[←hlen];exact h1,by omega,h3,fun hne=>?_⟩
 obtain⟨b,off,h5,h6⟩:=h4 (by intro e;rw[e]at hl;exact hne hl.symm)
 refine⟨b,off,h5,fun i r hi=>?_⟩
 rw[←hl,List.getElem?_map]at hi;obtain⟨p,hp,rfl⟩:=Option.map_eq_some_iff.1 hi;refine⟨SV p.2,(h.texts p (Q4 hp)).1,?_,?_,?_,?_⟩
 ·have:=h6 i p hp 0 _ rfl;rwa [Nat.add_zero]at this
 ·exact h6 i p hp 1 _ rfl
 ·exact h6 i p hp 2 _ rfl
 ·exact h6 i p hp 3 _ rfl
theorem form4{w:World}{base:Nat}{e:TypeId}{k n:Nat}{v:Value}{xs:List Value}(h:w.ownsRow base e k v n xs):∃a cap,v=.slice a n cap:=by
 rcases h.2 with⟨h1,h2⟩|⟨g,cap,_,h1,_⟩
 ·exact⟨none,0,by rw[h1,h2]⟩
 ·exact⟨_,cap,h1⟩
structure Zhh(r:Rule):Prop where
 out:r.out.length≤100
 kind:r.kind.length≤60
 word:r.word.length≤150
 many:r.ins.length≤12
 ins:∀s∈r.ins,s.length≤300
theorem Zhh.sm{r:Rule}(h:Zhh r):Z3z 900000 r:=⟨by have:=h.out;omega,by have:=h.kind;omega,by have:=h.word;omega,by have:=h.many;omega,fun s hs=>by have:=h.ins s hs;omega⟩
theorem Z4q(w:World)(v:Value)(l:List B)(x:B)(hv:Rd S w v l):Calls Tryz.prog 89 #[v,S x] w (RetS (I (idx (fun y=>y==x) l)) w):=by
 obtain⟨a,cap,rfl,hcap,hm,hc⟩:=hv;have hm':l.length≤9223372036854775807:=by unfold maxLen at hm;omega
 obtain⟨R,hR⟩:∃R,Hid (R=idx (fun y=>y==x) l):=⟨_,Q0 rfl⟩
 rw[←hR.out];clear hm;have HC:=Q0 hc;clear hc;go_enter Tryz.func89,Tryz.ntmps89;go_wp2;go_loop [5] (fun i=>∃k:Nat,k≤l.length∧i=.int .i64 k∧Hid (∀j y,j<k→l[j]?=some y→(y==x)=false)) (fun i=>l.length+1-(intOf i).toNat)
 case atStart=>exact⟨0,Nat.zero_le _,rfl,Q0 (fun j x h=>absurd h (Nat.not_lt_zero _))⟩
 case round=>
  obtain⟨k,hk,rfl,HB⟩:=hrel;by_cases hlt:k<l.length
  ·have hltz:(k:Int)<(l.length:Int):=by omega
   obtain⟨b,off,rfl,hcell⟩:=HC.out (by intro h;rw[h]at hlt;simp at hlt)
   obtain⟨y,hy⟩:∃y,l[k]?=some y:=⟨_,Q1 hlt⟩;have d0:=hcell k y hy;have HY:=Q0 hy;clear hcell hy;cases hq:y==x with
   | false=>
    go_wp2
    have HQ:=Q0 hq;go_round
    case rel=>exact⟨k+1,by omega,by go_num,Q0 (fun j z hj hz=>by
     rcases Nat.lt_succ_iff_lt_or_eq.1 hj with h|rfl
     ·exact HB.out j z h hz
     ·rw[HY.out]at hz;cases hz;exact HQ.out)⟩
    case measure=>simp[intOf];omega
   | true=>
    have HK:=Q0 (Z90 HY.out hq HB.out);go_wp2;go_ret;exact⟨by rw[hR.out,HK.out];rfl,rfl⟩
  ·have hltz:¬(k:Int)<(l.length:Int):=by omega
   have HK:=Q0 (Z5i (p:=fun y=>y==x) (l:=l) fun j y hy=>HB.out j y (by have:=(Q2 hy).1;omega) hy)
   go_wp2
   go_ret;exact⟨by rw[hR.out,HK.out];rfl,rfl⟩
theorem Zot{l:List Rule}{i k:Nat}{r q:Rule}(hi:l[i]?=some r)(hk:l[k]?=some q):decide (0≤idx (fun y=>y==q.out) r.ins)=Z07 l i k:=by
 rw[Z91];unfold Z07;rw[hi,hk];simp only;rw[Bool.eq_iff_iff];simp[List.any_eq_true]
theorem Z40(w:World)(v:Value)(l:List Rule)(i k:Nat)(hi:i<l.length)(hk:k<l.length)(hv:RdR w v l) :
  Calls Tryz.prog 103 #[v,I i,I k] w (RetE (.bool (Z07 l i k)) w):=by
 obtain⟨a,cap,rfl,_,_,hc⟩:=hv;obtain⟨b,off,rfl,hcell⟩:=hc (by intro h;rw[h]at hi;simp at hi)
 obtain⟨r,hr⟩:∃y,l[i]?=some y:=⟨_,Q1 hi⟩;obtain⟨q,hq⟩:∃y,l[k]?=some y:=⟨_,Q1 hk⟩;obtain⟨u,hu,_,_,_,c3⟩:=hcell i r hr;obtain⟨_,_,d0,_⟩:=hcell k q hq;have HI:=Q0 (fun n=>Z4q (w.drewN n) u r.ins q.out (hu.ext (Only.drewN _ _ n)))
 rw[←Zot hr hq];generalize idx (fun y=>y==q.out) r.ins=R at *
 have hiz:(i:Int)<(l.length:Int):=by omega
 have hkz:(k:Int)<(l.length:Int):=by omega
 have hi0:(0:Int)≤(i:Int):=by omega
 have hk0:(0:Int)≤(k:Int):=by omega
 obtain⟨au,cu,rfl,_,_,_⟩:=hu;clear hc hcell hr hq hi hk;go_enter Tryz.func103,Tryz.ntmps103;go_wp2_with fail;go_quiet ((go_at_call 89;exact Calls.quiet_of_same ((HI.out _).mono fun _ _ h=>⟨h.1,h.2.symm⟩)))
 go_wp2_with fail;go_ret
 exact⟨rfl,Only.drewN _ _ _⟩
def Z96:Go.Shelf.Ren:=⟨fun|41=>110|n=>n,fun|4=>4|22=>23|23=>55|n=>n,fun|n=>n⟩
theorem Zbn:SlLaysE0.n41 Tryz.prog Z96:={
 mixed:=by kernel_rfl
 f41:=⟨"slices.Clone[[]kilnyard/api.Rule,kilnyard/api.Rule]",by decide,Tryz.func110.trans (congrArg some (by kernel_rfl))⟩
 t4:=Tryz.underlying4
 a4:=Tryz.isAgg4
 z4:=Tryz.sizeOf4
 v4:=Tryz.zeroValue4
 t22:=Tryz.underlying23
 a22:=Tryz.isAgg23
 z22:=Tryz.sizeOf23
 v22:=Tryz.zeroValue23 }
theorem Zkn{α:Type}{enc:α→List Value}{n:Nat}(hn:∀x,(enc x).length=n)(hp:0<n):∀{l:List α} {j:Nat} {u:Value},(l.flatMap enc)[j]?=some u→∃(i:Nat)(x:α)(t:Nat),l[i]?=some x∧(enc x)[t]?=some u∧j=i*n+t
 | [],j,u,h=>by simp at h
 | x :: l,j,u,h=>by
  rw[List.flatMap_cons]at h;rcases Nat.lt_or_ge j n with hj|hj
  ·rw[List.getElem?_append_left (by rw[hn];exact hj)]at h
   exact⟨0,x,j,rfl,h,by omega⟩
  ·rw[List.getElem?_append_right (by rw[hn];exact hj),hn]at h
   obtain⟨i,y,t,h1,h2,h3⟩:=Zkn hn hp h;exact⟨i+1,y,t,by simpa using h1,h2,by rw[Nat.succ_mul];omega⟩
theorem RdR.parts{w:World}{a:Option Addr}{cap:Nat}{l:List Rule}(h:RdR w (.slice a l.length cap) l)(hl:l≠[]) :
  ∃(b off:Nat) (ps:List (Rule×Option Addr×Nat×Nat)),a=some ⟨b,off,none⟩∧ps.map Prod.fst=l∧(∀p∈ps,Rd S w (SV p.2) p.1.ins)∧∀j u,(ps.flatMap encR)[j]?=some u→w.cell? ⟨b,off+j,none⟩=some u:=by
 obtain⟨a',cap',e,_,_,hc⟩:=h;cases e;obtain⟨b,off,rfl,hcell⟩:=hc hl;have key:∀n,n≤l.length→∃ps:List (Rule×Option Addr×Nat×Nat),ps.map Prod.fst=l.take n∧(∀p∈ps,Rd S w (SV p.2) p.1.ins)∧∀i p,ps[i]?=some p→w.cell? ⟨b,off+i*4,none⟩=some (S p.1.out)∧w.cell? ⟨b,off+i*4+1,none⟩=some (S p.1.kind)∧w.cell? ⟨b,off+i*4+2,none⟩=some (S p.1.word)∧w.cell? ⟨b,off+i*4+3,none⟩=some (SV p.2):=by
  intro n
  induction n with
  | zero=>exact fun _=>⟨[],rfl,(by simp),(by simp)⟩
  | succ n ih=>
   intro hn
   obtain⟨ps,h1,h2,h3⟩:=ih (by omega)
   obtain⟨r,hr⟩:∃r,l[n]?=some r:=⟨_,Q1 hn⟩;obtain⟨u,hu,c0,c1,c2,c3⟩:=hcell n r hr;have hps:ps.length=n:=by have:=congrArg List.length h1;rw[List.length_map,List.length_take]at this;omega
   obtain⟨au,cu,rfl,hu1,hu2,hu3⟩:=hu;refine⟨ps++[(r,au,r.ins.length,cu)],by rw[List.map_append,h1,List.take_add_one,hr];rfl,fun p hp=>?_,fun i p hp=>?_⟩
   ·rcases List.mem_append.1 hp with hp|hp
    ·exact h2 p hp
    ·rw[List.mem_singleton.1 hp];exact⟨au,cu,rfl,hu1,hu2,hu3⟩
   ·rcases Nat.lt_or_ge i ps.length with hi|hi
    ·rw[List.getElem?_append_left hi]at hp;exact h3 i p hp
    ·rw[List.getElem?_append_right hi]at hp
     have hi0:i-ps.length=0:=by
      have:=(Q2 hp).1
      rw[List.length_singleton]at this;omega
     rw[hi0]at hp;cases hp;have:i=n:=by omega
     subst this;exact⟨c0,c1,c2,c3⟩
 obtain⟨ps,h1,h2,h3⟩:=key l.length (Nat.le_refl _);rw[List.take_length]at h1;refine⟨b,off,ps,rfl,h1,h2,fun j u hu=>?_⟩
 obtain⟨i,p,t,hp,ht,rfl⟩:=Zkn Z4r (by decide) hu
 obtain⟨c0,c1,c2,c3⟩:=h3 i p hp;have ht4:t=0∨t=1∨t=2∨t=3:=by
  have:=(Q2 ht).1
  rw[Z4r]at this;omega
 rcases ht4 with rfl|rfl|rfl|rfl
 ·cases ht;rw[Nat.add_zero];exact c0
 ·cases ht;rw[←Nat.add_assoc];exact c1
 ·cases ht;rw[←Nat.add_assoc];exact c2
 ·cases ht;rw[←Nat.add_assoc];exact c3
def Zhj(w:World)(l:List Rule)(e:Ending)(w':World):Prop:=
 ∃(v:Value) (ps:List (Rule×Option Addr×Nat×Nat)),e=.returned v∧ps.map Prod.fst=l∧w'.ownsRow w.heap.size 55 4 v l.length (ps.flatMap encR)∧(∀p∈ps,Rd S w (SV p.2) p.1.ins)∧Ext w w'
theorem Zc7(w:World)(v:Value)(l:List Rule)(hv:RdR w v l)(hl:l.length≤100000):Calls Tryz.prog 110 #[v] w (Zhj w l):=by
 obtain⟨i0,hi,hz0,hz1,hz2⟩:=info_parts Zkj;have hz23:∀w,(Go.sizeOf 55).run Tryz.prog w=.ok 4 w:=Tryz.sizeOf55;obtain⟨a,cap,rfl,h1,h2,h3⟩:=hv;have gen:∀(b off:Nat) (ps:List (Rule×Option Addr×Nat×Nat)),ps.map Prod.fst=l→(∀p∈ps,Rd S w (SV p.2) p.1.ins)→(∀j u,(ps.flatMap encR)[j]?=some u→w.cell? ⟨b,off+j,none⟩=some u)→a=some ⟨b,off,none⟩→Calls Tryz.prog 110 #[.slice a l.length cap] w (Zhj w l):=fun b off ps hps hrd hc ha=>by
  subst ha;have hlen:ps.length=l.length:=by rw[←hps,List.length_map]
  refine(AnyE.slices_Clone (ρ:=Z96) Zbn i0 _ 4 72 hi hz0 hz1 hz2 rfl (by decide) hz23 b off l.length cap (ps.flatMap encR) w (by rw[Z8b Z4r,hlen]) (by unfold maxLen;omega) (by omega) hc (fun u hu=>?_)).mono fun e w' ⟨v',h,ho,_,hb⟩=>⟨v',ps,h,hps,ho,hrd,Only.of_below hb⟩
  obtain⟨p,_,hp⟩:=List.mem_flatMap.1 hu;exact Zkr p u hp
 by_cases hne:l=[]
 ·subst hne
  cases a with
  | none=>exact(AnyE.slices_Clone_nil (ρ:=Z96) Zbn 0 cap w).mono fun e w' ⟨h,h'⟩=>⟨_,[],h,rfl,World.ownsRow_nil _ _ _ _,(by simp),by rw[h'];exact Only.refl _ _⟩
  | some ad=>
   clear gen h1 h2 h3 hi hz0 hz1 hz2 hz23 hl;have q22:∀(w:World)(a:Option Addr)(n c n' c':Nat),(binOp .eql 23 (.slice a n c) (.slice none n' c')).run Tryz.prog w=.ok (.bool a.isNone) w:=fun w a n c n' c'=>Lib.run_eql_slice_nil w _ _ a n c n' c' Tryz.underlying23
   go_enter Tryz.func110,Tryz.ntmps110
   go_wp2_with fail;go_ret
   exact⟨_,[],rfl,rfl,⟨by simp,.inr ⟨w.heap.size,0,#[],rfl,Nat.le_refl _,(MapKept.heap_alloc w _).1,by simp,by simp,by simp⟩⟩,by simp,Only.alloc _ _ _⟩
 ·obtain⟨b,off,ps,ha,hps,hrd,hc⟩:=RdR.parts (w:=w) (a:=a) (cap:=cap) ⟨a,cap,rfl,h1,h2,h3⟩ hne
  exact gen b off ps hps hrd hc ha
theorem wpNum2{P:Program}(hP:P=Tryz.prog){ops:Array Oper}{rest:List Oper}{o:Oper}{a:Act}{Q:Exit→Act→World→Prop}(s x:Operand)(base:Nat)(v:Value)(l:List Nat)(k:Nat)(W:World)(hgd:o.guard=none)
  (ho:o.op=.call { callee:=.builtin .append,args:=#[s,x],argTypes:=#[46,46] }) (hs:a.eval s=v) (hx:a.eval x=.slice (some ⟨W.heap.size,0,none⟩) 1 1)
  (hrow:RowI base W v l) (hl:l.length≤1000000) (hbase:base≤W.heap.size)
  (hK:∀g cap w',Hid (RowI base w' (.slice (some ⟨g,0,none⟩) (l.length+1) cap) (l++[k]))→Hid (W.grownBy w' v.ownBlock)→Hid (∀i,Value.ownBlock (.slice (some ⟨g,0,none⟩) (l.length+1) cap)=some i→v.ownBlock=some i∨W.heap.size≤i)→
   wpList P ops Q rest (a.put o.dst (.slice (some ⟨g,0,none⟩) (l.length+1) cap)) w') :
  wpList P ops Q (o :: rest) a (W.alloc (.cells #[IN k] 3 (0,0))):=by
 subst hP;have hf:∀q:List Nat,q.flatMap (fun k=>[IN k])=q.map IN:=fun q=>by induction q with
  | nil=>rfl
  | cons x q ih=>rw[List.flatMap_cons,List.map_cons,ih];rfl
 refine Z14 (fun k:Nat=>[IN k]) 46 3 1 8 _ Z8z Tryz.underlying46 rfl (by decide) (fun _=>rfl) (fun _ u hu=>by cases List.mem_singleton.1 hu;rfl) (by decide) s x base v l k W _ rfl hgd ho hs hx (by rw[hf];exact hrow) hl hbase ?_
 intro g cap w' h1 h2 h3
 rw[hf]at h1;refine hK g cap w' (Q0 ?_) (Q0 h2) (Q0 h3);show World.ownsRow _ _ _ _ _ (l++[k]).length _
 rw[List.length_append];exact h1
abbrev HD:=(Option Addr×Nat×Nat)×List Nat
section
variable {w wr w':World}{mb:Nat}{L L':List (B×Nat)}{v v':Value}{rs:List HD}
end
end Go.Proofs.YtnmhaipjfpongacGreatDoor
