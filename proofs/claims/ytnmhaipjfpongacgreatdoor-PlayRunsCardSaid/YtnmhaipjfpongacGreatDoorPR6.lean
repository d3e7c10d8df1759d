/- A part of this claim's proof;each theorem bears its own conditions. -/
import Derived.Test.YtnmhaipjfpongacGreatDoorPR5
import Derived.Lib.AppendIntMem
import Derived.Lib.ItoaLen
import Derived.Lib.SmallJoins
set_option maxRecDepth 100000
set_option maxHeartbeats 1000000
namespace Go.Proofs.YtnmhaipjfpongacGreatDoor
open Go.ChangeShapes Go.WideShapes Go.ChangeAt Go.RowKit
def cutc(d:UInt8):B→List B
 | []=>[[]]
 | c :: r=>if c=d then [] :: cutc d r else Z74 c (cutc d r)
theorem Z7i(d:UInt8)(s:B):cutc d s≠[]:=by
 cases s with
 | nil=>simp[cutc]
 | cons c r=>unfold cutc;split;simp;cases cutc d r <;> simp[Z74]
theorem cutc_pos(d:UInt8)(s:B):0<(cutc d s).length:=List.length_pos_iff.2 (Z7i d s)
theorem Z46(d:UInt8):∀(a:B),(d:UInt8)∉a→cutc d a=[a]
 | [],_=>rfl
 | c :: r,h=>by
  have hc:c≠d:=fun e=>h (by simp[e])
  rw[cutc,if_neg hc,Z46 d r (fun e=>h (List.mem_cons_of_mem _ e))]
  rfl
theorem Z6q(d:UInt8):∀(a b:B),(d:UInt8)∉a→cutc d (a++d :: b)=a :: cutc d b
 | [],b,_=>by simp[cutc]
 | c :: r,b,h=>by
  have hc:c≠d:=fun e=>h (by simp[e])
  rw[List.cons_append,cutc,if_neg hc,Z6q d r b (fun e=>h (List.mem_cons_of_mem _ e))]
  rfl
def joinc(d:UInt8)(l:List B):B:=List.intercalate [d] l
theorem Z63(d:UInt8)(x:B):joinc d [x]=x:=by simp[joinc,List.intercalate]
theorem Z54(d:UInt8)(x y:B)(l:List B):joinc d (x :: y :: l)=x++d :: joinc d (y :: l):=by
 simp[joinc,List.intercalate,List.intersperse]
theorem Ze6(d:UInt8)(x:B){l:List B}(h:l≠[]):joinc d (x :: l)=x++d :: joinc d l:=by
 cases l with
 | nil=>exact absurd rfl h
 | cons y l=>exact Z54 d x y l
theorem Zd0(d:UInt8):∀(s:B),joinc d (cutc d s)=s
 | []=>by simp[cutc,Z63 d]
 | c :: r=>by
  have ih:=Zd0 d r;rw[cutc];split
  ·rename_i hc
   rw[Ze6 d [] (Z7i d r),ih,hc];rfl
  ·cases hr:cutc d r with
   | nil=>exact absurd hr (Z7i d r)
   | cons y ys=>
    rw[hr]at ih;cases ys with
    | nil=>rw[Z63 d]at ih;rw[Z74,Z63 d,ih]
    | cons z zs=>rw[Z54 d]at ih;rw[Z74,Z54 d,List.cons_append,ih]
theorem Z8h(d:UInt8):∀(l:List B),l≠[]→(∀x∈l,(d:UInt8)∉x)→cutc d (joinc d l)=l
 | [],h,_=>absurd rfl h
 | [x],_,h=>by rw[Z63 d];exact Z46 d x (h x (.head _))
 | x :: y :: l,_,h=>by
  rw[Z54 d,Z6q d x _ (h x (.head _)),Z8h d (y :: l) (by simp) (fun z hz=>h z (.tail _ hz))]
theorem Z85(d:UInt8)(s:B):Lib.index s [d]=Lib.indexByte s d:=Lib.index_one s d
theorem Z9a(d:UInt8):∀(k:Nat)(s:B),s.count d≤k→Lib.splitK [d] 0 k s=cutc d s
 | 0,s,h=>by
  have:(d:UInt8)∉s:=by
   intro hm
   have:=List.count_pos_iff.2 hm
   omega
  rw[Z46 d s this];rfl
 | k+1,s,h=>by
  unfold Lib.splitK;rw[Z85 d];have hge:=Lib.indexByte_ge s d;by_cases hm:Lib.indexByte s d=-1
  ·rw[if_pos (by rw[hm];rfl)]
   have:(d:UInt8)∉s:=by
    intro hx
    obtain⟨i,hi⟩:=List.getElem?_of_mem hx;exact Lib.indexByte_none hm i hi
   rw[Z46 d s this]
  ·obtain⟨o,ho⟩:=Int.eq_ofNat_of_zero_le (show 0≤Lib.indexByte s d by omega)
   have⟨h1,h2⟩:=Lib.indexByte_some ho
   rw[if_neg (by rw[ho];simp),ho]
   have hlt:o<s.length:=(Q2 h1).1;have hs:s=s.take o++d :: s.drop (o+1):=by
    have:=(List.take_append_drop o s).symm
    rw[List.drop_eq_getElem_cons hlt]at this;have e:s[o]=d:=by rw[Q1 hlt]at h1;simpa using h1
    rw[e]at this;exact this
   have hn:(d:UInt8)∉s.take o:=by
    intro hx
    obtain⟨i,hi⟩:=List.getElem?_of_mem hx;rw[List.getElem?_take]at hi;split at hi
    ·rename_i hi2;exact h2 i hi2 hi
    ·cases hi
   have hc:(s.drop (o+1)).count d≤k:=by
    have e2:s.count d=(s.take o++d :: s.drop (o+1)).count d:=by rw[←hs]
    rw[List.count_append,List.count_cons_self]at e2;omega
   rw[show ((o:Int)).toNat=o from rfl]
   rw[Nat.add_zero,show ([d]:B).length=1 from rfl,Z9a d k _ hc]
   conv=>rhs;rw[hs]
   rw[Z6q d _ _ hn]
theorem Z8c(d:UInt8)(s:B):(Lib.index s [d]=-1∧(d:UInt8)∉s)∨∃o:Nat,Lib.index s [d]=o∧o<s.length∧s=s.take o++d :: s.drop (o+1)∧(d:UInt8)∉s.take o:=by
 rw[Z85 d];have hge:=Lib.indexByte_ge s d;by_cases hm:Lib.indexByte s d=-1
 ·left
  refine⟨hm,fun hx=>?_⟩
  obtain⟨i,hi⟩:=List.getElem?_of_mem hx;exact Lib.indexByte_none hm i hi
 ·right
  obtain⟨o,ho⟩:=Int.eq_ofNat_of_zero_le (show 0≤Lib.indexByte s d by omega)
  have⟨h1,h2⟩:=Lib.indexByte_some ho
  have hlt:o<s.length:=(Q2 h1).1;refine⟨o,ho,hlt,?_,?_⟩
  ·have:=(List.take_append_drop o s).symm
   rw[List.drop_eq_getElem_cons hlt]at this;have e:s[o]=d:=by rw[Q1 hlt]at h1;simpa using h1
   rw[e]at this;exact this
  ·intro hx
   obtain⟨i,hi⟩:=List.getElem?_of_mem hx;rw[List.getElem?_take]at hi;split at hi
   ·rename_i hi2;exact h2 i hi2 hi
   ·cases hi
theorem Z5k(d:UInt8):∀(n:Nat)(s:B),s.length≤n→Lib.count s [d]=s.count d
 | n,s,hn=>by
  rcases Z8c d s with⟨h,hm⟩|⟨o,ho,hlt,hs,hm⟩
  ·rw[Lib.count_miss h,List.count_eq_zero.2 hm]
  ·rw[Lib.count_hit (by simp) ho]
   cases n with
   | zero=>omega
   | succ n=>
    have ih:=Z5k d n (s.drop (o+1)) (by simp;omega)
    rw[show o+([d]:B).length=o+1 from rfl,ih]
    conv=>rhs;rw[hs]
    rw[List.count_append,List.count_cons_self,List.count_eq_zero.2 hm];omega
theorem Z3g(d:UInt8):∀(s:B),(cutc d s).length=s.count d+1
 | []=>rfl
 | c :: r=>by
  have ih:=Z3g d r;rw[cutc];split
  ·rename_i hc;subst hc;simp[ih]
  ·rename_i hc
   cases hr:cutc d r with
   | nil=>exact absurd hr (Z7i d r)
   | cons x xs=>
    rw[hr]at ih;have hc2:(c==d)=false:=Q3 hc;simp only[Z74,List.length_cons,List.count_cons,hc2]at ih ⊢;simpa using ih
theorem Zfi(d:UInt8)(s:B):(Lib.splitB ⟨#[d]⟩ 0 (Lib.countB ⟨s.toArray⟩ ⟨#[d]⟩) ⟨s.toArray⟩).map Value.string=(cutc d s).map S:=by
 have h1:=Lib.splitB_data ⟨#[d]⟩ 0 (Lib.countB ⟨s.toArray⟩ ⟨#[d]⟩) ⟨s.toArray⟩;have hc:Lib.countB ⟨s.toArray⟩ ⟨#[d]⟩=s.count d:=Z5k d s.length s (Nat.le_refl _);rw[hc]at h1 ⊢;have h2:(Lib.splitB ⟨#[d]⟩ 0 (s.count d) ⟨s.toArray⟩).map (·.data.toList)=cutc d s:=by
  rw[h1];exact Z9a d _ s (Nat.le_refl _)
 rw[←h2,List.map_map];rfl
theorem Z5j(d:UInt8)(s:B):(cutc d s).length≤s.length+1:=by rw[Z3g d];have:=List.count_le_length (a:=(d:UInt8)) (l:=s);omega
structure Z2j(d:UInt8)(s:B)(o:List B)(fr j:Nat):Prop where
 le:fr≤j
 len:j≤s.length
 done:cutc d s=o++cutc d (s.drop fr)
 none:∀t,fr≤t→t<j→s[t]?≠some d
theorem Z2j.olen{d:UInt8}{s:B}{o:List B}{fr j:Nat}(h:Z2j d s o fr j):o.length≤s.length:=by
 have h1:=congrArg List.length h.done;have h2:=Z5j d s;have h3:=cutc_pos d (s.drop fr);rw[List.length_append]at h1;omega
theorem Z2j.plain{d:UInt8}{s:B}{o:List B}{fr j:Nat}(h:Z2j d s o fr j):(d:UInt8)∉(s.take j).drop fr:=by
 intro hm
 obtain⟨i,hi⟩:=List.getElem?_of_mem hm;rw[List.getElem?_drop,List.getElem?_take]at hi;split at hi
 ·rename_i hlt
  exact h.none (fr+i) (by omega) hlt hi
 ·cases hi
theorem Z2j.hit{d:UInt8}{s:B}{o:List B}{fr j:Nat}(h:Z2j d s o fr j)(hj:s[j]?=some d):Z2j d s (o++[(s.take j).drop fr]) (j+1) (j+1):=by
 obtain⟨hlt,he⟩:=Q2 hj;refine⟨Nat.le_refl _,hlt,?_,fun t h1 h2=>absurd h2 (by omega)⟩
 have hs:s.drop fr=(s.take j).drop fr++d :: s.drop (j+1):=by
  have h1:s=s.take j++s.drop j:=(List.take_append_drop j s).symm
  rw[List.drop_eq_getElem_cons hlt,he]at h1
  conv=>lhs;rw[h1]
  rw[List.drop_append_of_le_length (by rw[List.length_take];have:=h.le;omega)]
 rw[h.done,hs,Z6q d _ _ h.plain];simp
theorem Z2j.miss{d:UInt8}{s:B}{o:List B}{fr j:Nat}{c:UInt8}(h:Z2j d s o fr j)(hj:s[j]?=some c)(hc:c≠d):Z2j d s o fr (j+1):=by
 have hlt:=(Q2 hj).1;refine⟨by have:=h.le;omega,hlt,h.done,fun t h1 h2=>?_⟩
 rcases Nat.lt_succ_iff_lt_or_eq.1 h2 with h3|rfl
 ·exact h.none t h1 h3
 ·rw[hj];intro e;exact hc (by simpa using e)
theorem Z2j.out{d:UInt8}{s:B}{o:List B}{fr:Nat}(h:Z2j d s o fr s.length):cutc d s=o++[s.drop fr]:=by
 rw[h.done];have:=h.plain;rw[List.take_length]at this;rw[Z46 d _ this]
theorem Z3c(w:World)(d:UInt8)(dz:Int)(hdz:dz=d.toNat)(s:B)(hs:s.length≤999999) :
  Calls Tryz.prog 156 #[S s,.int .u8 dz] w fun e w'=>∃g cap,e=.returned (.slice (some ⟨g,0,none⟩) (cutc d s).length cap)∧w'.ownsRow w.heap.size 9 1 (.slice (some ⟨g,0,none⟩) (cutc d s).length cap) (cutc d s).length ((cutc d s).map S)∧Ext w w':=by
 have HDZ:=Q0 hdz;clear hdz;go_enter Tryz.func156,Tryz.ntmps156;go_wp2_with fail;go_loopw [5,6,7] (fun v f i wr=>∃(o:List B)(fr j:Nat),i=.int .i64 j∧f=.int .i64 fr∧Hid (Z2j d s o fr j)∧Hid (Ext w wr)∧Hid (wr.ownsRow w.heap.size 9 1 v o.length (o.map S))) (fun _ _ i _=>s.length-(intOf i).toNat)
 case atStart=>exact⟨[],0,0,rfl,rfl,Q0 ⟨Nat.le_refl _,Nat.zero_le _,rfl,fun t _ h=>absurd h (Nat.not_lt_zero _)⟩,Q0 (Only.refl _ _),Q0 (World.ownsRow_nil _ _ _ _)⟩
 case round=>
  obtain⟨o,fr,j,rfl,rfl,HC,HX,HR⟩:=hrel;have hle:=HC.out.le;have hlen:=HC.out.len;by_cases hlt:j<s.length
  ·have hltz:(j:Int)<(s.length:Int):=by omega
   obtain⟨c,hc⟩:∃c,s[j]?=some c:=⟨_,Q1 hlt⟩;have hg:=Z3x hc;have HCC:=Q0 hc;clear hc;by_cases h47:c=d
   ·subst h47
    have hz:((c.toNat:Int)==dz)=true:=by rw[HDZ.out];simp
    have he:=Z5s s fr j;obtain⟨x,hx⟩:∃x,x=(s.take j).drop fr:=⟨_,rfl⟩;rw[←hx]at he;have HXX:=Q0 hx;have hol:=HC.out.olen;have q1:(0:Int)≤(fr:Int):=by omega
    have q2:(fr:Int)≤(j:Int):=by omega
    have q3:(j:Int)≤(s.length:Int):=by omega
    clear hx;go_wp2_with (at_builtin;refine Z5a (.tmp 19) (.tmp 24) w.heap.size _ o x _ rfl rfl rfl rfl HR.out (by omega) HX.out.size ?_;intro g5 cap5 w5 ho5 hg5;have HX5:Hid (Ext w w5):=Q0 (HX.out.trans hg5 (fun _ _ h=>h) (fun k hk hq=>absurd hk (by omega)));have HO5:=Q0 ho5;clear ho5 hg5)
    go_roundw
    case rel=>exact⟨o++[x],j+1,j+1,by go_num,by go_num,Q0 (by rw[HXX.out];exact HC.out.hit HCC.out),HX5,Q0 (by rw[List.length_append];exact HO5.out)⟩
    case measure=>simp[intOf];omega
   ·have hz:((c.toNat:Int)==dz)=false:=by
     refine Q3 fun e=>h47 ?_
     rw[HDZ.out]at e;exact UInt8.toNat_inj.1 (by omega)
    go_wp2_with fail;go_roundw
    case rel=>exact⟨o,fr,j+1,by go_num,rfl,Q0 (HC.out.miss HCC.out h47),HX,HR⟩
    case measure=>simp[intOf];omega
  ·have hltz:¬((j:Int)<(s.length:Int)):=by omega
   have hj:j=s.length:=by omega
   subst hj;have he:=ba_end s fr;obtain⟨x,hx⟩:∃x,x=s.drop fr:=⟨_,rfl⟩;rw[←hx]at he;have hol:=HC.out.olen;have q1:(0:Int)≤(fr:Int):=by omega
   have q2:(fr:Int)≤(s.length:Int):=by omega
   have hcut:=HC.out.out;rw[←hx]at hcut;have HCU:=Q0 hcut;clear hx hcut;go_wp2_with (at_builtin;refine Z5a (.tmp 28) (.tmp 32) w.heap.size _ o x _ rfl rfl rfl rfl HR.out (by omega) HX.out.size ?_;intro g5 cap5 w5 ho5 hg5;have HX5:Hid (Ext w w5):=Q0 (HX.out.trans hg5 (fun _ _ h=>h) (fun k hk hq=>absurd hk (by omega)));have HO5:=Q0 ho5;clear ho5 hg5)
   go_ret;refine⟨g5,cap5,?_,?_,HX5.out⟩
   ·rw[HCU.out,List.length_append];rfl
   ·rw[HCU.out,List.length_append];exact HO5.out
theorem Zld(w:World)(d:UInt8)(s:B)(hs:s.length≤1000000)(hm:Z1m w) :
  Calls Tryz.prog 207 #[S s,.string ⟨#[d]⟩] w fun e w'=>e=.returned (.slice (some ⟨w.heap.size,0,none⟩) (cutc d s).length (cutc d s).length)∧w'=w.alloc (.cells ((cutc d s).map S).toArray 9):=by
 obtain⟨m,hm⟩:=hm;refine(Tryz.strings_Split ⟨s.toArray⟩ ⟨#[d]⟩ m w (by simp[ByteArray.size];omega) hm (by simp[ByteArray.size])).mono ?_
 rintro e w' ⟨rfl,rfl⟩;rw[Zfi,show Lib.countB ⟨s.toArray⟩ ⟨#[d]⟩=s.count d from Z5k d s.length s (Nat.le_refl _),Z3g]
 exact⟨rfl,rfl⟩
def cut1(d:UInt8):B→B×B×Bool
 | []=>([],[],false)
 | c :: r=>if c=d then([],r,true)else(c :: (cut1 d r).1,(cut1 d r).2.1,(cut1 d r).2.2)
theorem Zku(d:UInt8):∀(a b:B),d∉a→cut1 d (a++d :: b)=(a,b,true)
 | [],b,_=>by simp[cut1]
 | c :: r,b,h=>by
  have hc:c≠d:=fun e=>h (by simp[e])
  rw[List.cons_append,cut1,if_neg hc,Zku d r b (fun e=>h (List.mem_cons_of_mem _ e))]
theorem Zh8(d:UInt8):∀(a:B),d∉a→cut1 d a=(a,[],false)
 | [],_=>by simp[cut1]
 | c :: r,h=>by
  have hc:c≠d:=fun e=>h (by simp[e])
  rw[cut1,if_neg hc,Zh8 d r (fun e=>h (List.mem_cons_of_mem _ e))]
theorem cut1_lib(d:UInt8)(s:B):Lib.cut s [d]=cut1 d s:=by
 unfold Lib.cut;rcases Z8c d s with⟨h,hm⟩|⟨o,ho,hlt,hs,hm⟩
 ·rw[h,if_neg (by decide),Zh8 d s hm]
 ·rw[ho,if_pos (by omega)]
  have h1:=Zku d (s.take o) (s.drop (o+1)) hm;rw[←hs]at h1;rw[h1];rfl
theorem Zbk(d:UInt8):∀s:B,d∉(cut1 d s).1∧((cut1 d s).2.2=true→s=(cut1 d s).1++d :: (cut1 d s).2.1)∧((cut1 d s).2.2=false→cut1 d s=(s,[],false)∧d∉s)
 | []=>by simp[cut1]
 | c :: r=>by
  obtain⟨h1,h2,h3⟩:=Zbk d r;by_cases hc:c=d
  ·subst hc;simp[cut1]
  ·rw[cut1,if_neg hc]
   refine⟨fun h=>?_,fun h=>?_,fun h=>?_⟩
   ·rcases List.mem_cons.1 h with e|e
    ·exact hc e.symm
    ·exact h1 e
   ·have:=h2 h
    show c :: r=c :: ((cut1 d r).1++d :: (cut1 d r).2.1)
    rw[←this]
   ·obtain⟨e1,e2⟩:=h3 h
    refine⟨by rw[e1],fun hm=>?_⟩
    rcases List.mem_cons.1 hm with e|e
    ·exact hc e.symm
    ·exact e2 e
theorem Za6(d:UInt8):∀s:B,(cut1 d s).1.length≤s.length∧(cut1 d s).2.1.length≤s.length
 | []=>by simp[cut1]
 | c :: r=>by
  have:=Za6 d r
  rw[cut1];split <;> simp <;> omega
theorem cutD_any(w:World)(d:UInt8)(s:B)(hs:s.length≤1000000)(hm:Z1m w) :
  Calls Tryz.prog 203 #[S s,.string ⟨#[d]⟩] w fun e w'=>e=.returned (.tuple #[S (cut1 d s).1,S (cut1 d s).2.1,.bool (cut1 d s).2.2])∧Ext w w':=by
 obtain⟨m,hm⟩:=hm;refine(Tryz.strings_Cut ⟨s.toArray⟩ ⟨#[d]⟩ m w (by simp[ByteArray.size];omega) hm).mono ?_
 rintro e w' ⟨rfl,n,rfl⟩;have:=cut1_lib d s;refine⟨?_,Only.drewN _ _ _⟩;simp only[this]
theorem Z3n{α:Type}{l:List α}{i:Nat}(d:α)(h:i<l.length):l[i]?=some (l.getD i d):=by
 rw[List.getD_eq_getElem?_getD,Q1 h];rfl
def Drawn(w w':World):Prop:=∃n,w'=w.drewN n
theorem Drawn.ext{w w':World}(h:Drawn w w'):Ext w w':=by obtain⟨n,rfl⟩:=h;exact Only.drewN _ _ _
theorem Drawn.refl(w:World):Drawn w w:=⟨0,rfl⟩
theorem Drawn.more{w w':World}(h:Drawn w w')(n:Nat):Drawn w (w'.drewN n):=by obtain⟨m,rfl⟩:=h;exact⟨m+n,by simp[World.drewN,Nat.add_assoc]⟩
theorem Zkx{α:Type}[BEq α][LawfulBEq α](d:α)(a b:List α)(hl:a.length=b.length)(h:∀j,j<a.length→a.getD j d=b.getD j d):a=b:=by
 apply List.ext_getElem hl
 intro i h1 h2
 have:=h i h1
 rw[List.getD_eq_getElem?_getD,List.getD_eq_getElem?_getD,Q1 h1,Q1 h2]at this;simpa using this
theorem Z9c(w:World)(v1 v2:Value)(a b:List Int)(h1:Rd I w v1 a)(h2:Rd I w v2 b) :
  Calls Tryz.prog 65 #[v1,v2] w fun e w'=>e=.returned (.bool (a==b))∧Drawn w w':=by
 obtain⟨a1,cap1,rfl,_,hm1,hc1⟩:=h1;obtain⟨a2,cap2,rfl,_,_,hc2⟩:=h2;have hl1:a.length≤9223372036854775807:=by unfold maxLen at hm1;omega
 clear hm1;have H1:=Q0 hc1;have H2:=Q0 hc2;clear hc1 hc2;by_cases hl:a.length=b.length
 ·obtain⟨r,hr⟩:∃r,Hid (r=(a==b)):=⟨_,Q0 rfl⟩
  rw[←hr.out];have HL:=Q0 hl;have hne:((a.length:Int) != (a.length:Int))=false:=by simp
  rw[←hl];clear hl;go_enter Tryz.func65,Tryz.ntmps65;go_wp2_with fail;go_loopw [5] (fun i wr=>∃k:Nat,k≤a.length∧i=.int .i64 k∧Drawn w wr∧Hid (∀j,j<k→a.getD j 0=b.getD j 0)) (fun i _=>a.length-(intOf i).toNat)
  case atStart=>exact⟨0,Nat.zero_le _,rfl,Drawn.refl _,fun j hj=>absurd hj (Nat.not_lt_zero _)⟩
  case round=>
   obtain⟨k,hk,rfl,hd,hp⟩:=hrel;have HD:=Q0 hd;clear hd;by_cases hlt:k<a.length
   ·obtain⟨b1,o1,rfl,d1⟩:=H1.out (by intro h;rw[h]at hlt;simp at hlt)
    obtain⟨b2,o2,rfl,d2⟩:=H2.out (by intro h;have h2:=HL.out;rw[h]at h2;have h3:a.length=0:=h2;omega)
    have e1:=HD.out.ext.cellOf (d1 k _ (Z3n 0 hlt)) (fun h=>h)
    have e2:=HD.out.ext.cellOf (d2 k _ (Z3n 0 (by have:=HL.out;omega))) (fun h=>h)
    clear d1 d2;have hltz:(k:Int)<(a.length:Int):=by omega
    by_cases hq:a.getD k 0=b.getD k 0
    ·have HQ:=Q0 hq
     rw[hq]at e1;clear hq;generalize b.getD k 0=x at e1 e2;have hxx:(x != x)=false:=by simp
     go_wp2_with fail;go_quiet (fail)
     go_wp2
     go_roundw
     case rel=>exact⟨k+1,by omega,by go_num,HD.out.more _,fun j hj=>by
      rcases Nat.lt_succ_iff_lt_or_eq.1 hj with h|rfl
      ·exact hp.out j h
      ·exact HQ.out⟩
     case measure=>simp[intOf];omega
    ·have hxx:(a.getD k 0 != b.getD k 0)=true:=by simpa using hq
     have hF:(a==b)=false:=Q3 fun e=>hq (by rw[e])
     have HF:=Q0 hF;clear hF hq;generalize a.getD k 0=x at e1 hxx;generalize b.getD k 0=y at e2 hxx;go_wp2_with fail;go_quiet (fail);go_wp2;go_ret;exact⟨by rw[hr.out,HF.out];rfl,HD.out.more _⟩
   ·have hT:(a==b)=true:=by
     rw[beq_iff_eq];exact Zkx 0 a b HL.out fun j hj=>hp.out j (by omega)
    have HT:=Q0 hT;clear hT;go_wp2_with fail;go_ret;exact⟨by rw[hr.out,HT.out];rfl,HD.out⟩
 ·have hne:((a.length:Int) != (b.length:Int))=true:=by rw[bne_iff_ne];omega
  have hF:(a==b)=false:=Q3 fun e=>hl (by rw[e])
  rw[hF];go_enter Tryz.func65,Tryz.ntmps65;go_wp2_with fail;go_ret;exact⟨rfl,Drawn.refl _⟩
theorem Zdk(w:World)(v1 v2:Value)(a b:List B)(h1:Rd S w v1 a)(h2:Rd S w v2 b) :
  Calls Tryz.prog 74 #[v1,v2] w fun e w'=>e=.returned (.bool (a==b))∧Drawn w w':=by
 obtain⟨a1,cap1,rfl,_,hm1,hc1⟩:=h1;obtain⟨a2,cap2,rfl,_,_,hc2⟩:=h2;have hl1:a.length≤9223372036854775807:=by unfold maxLen at hm1;omega
 clear hm1;have H1:=Q0 hc1;have H2:=Q0 hc2;clear hc1 hc2;by_cases hl:a.length=b.length
 ·obtain⟨r,hr⟩:∃r,Hid (r=(a==b)):=⟨_,Q0 rfl⟩
  rw[←hr.out];have HL:=Q0 hl;have hne:((a.length:Int) != (a.length:Int))=false:=by simp
  rw[←hl];clear hl;go_enter Tryz.func74,Tryz.ntmps74;go_wp2_with fail;go_loopw [5] (fun i wr=>∃k:Nat,k≤a.length∧i=.int .i64 k∧Drawn w wr∧Hid (∀j,j<k→a.getD j []=b.getD j [])) (fun i _=>a.length-(intOf i).toNat)
  case atStart=>exact⟨0,Nat.zero_le _,rfl,Drawn.refl _,fun j hj=>absurd hj (Nat.not_lt_zero _)⟩
  case round=>
   obtain⟨k,hk,rfl,hd,hp⟩:=hrel;have HD:=Q0 hd;clear hd;by_cases hlt:k<a.length
   ·obtain⟨b1,o1,rfl,d1⟩:=H1.out (by intro h;rw[h]at hlt;simp at hlt)
    obtain⟨b2,o2,rfl,d2⟩:=H2.out (by intro h;have h2:=HL.out;rw[h]at h2;have h3:a.length=0:=h2;omega)
    have e1:=HD.out.ext.cellOf (d1 k _ (Z3n [] hlt)) (fun h=>h)
    have e2:=HD.out.ext.cellOf (d2 k _ (Z3n [] (by have:=HL.out;omega))) (fun h=>h)
    clear d1 d2;have hltz:(k:Int)<(a.length:Int):=by omega
    by_cases hq:a.getD k []=b.getD k []
    ·have HQ:=Q0 hq
     rw[hq]at e1;clear hq;generalize b.getD k []=x at e1 e2;have hxx:(x != x)=false:=by simp
     go_wp2_with fail;go_quiet (fail)
     go_wp2
     go_roundw
     case rel=>exact⟨k+1,by omega,by go_num,HD.out.more _,fun j hj=>by
      rcases Nat.lt_succ_iff_lt_or_eq.1 hj with h|rfl
      ·exact hp.out j h
      ·exact HQ.out⟩
     case measure=>simp[intOf];omega
    ·have hxx:(a.getD k []==b.getD k [])=false:=by simpa using hq
     have hF:(a==b)=false:=Q3 fun e=>hq (by rw[e])
     have HF:=Q0 hF;clear hF hq;generalize a.getD k []=x at e1 hxx;generalize b.getD k []=y at e2 hxx;go_wp2_with fail;go_quiet (fail);go_wp2;go_ret;exact⟨by rw[hr.out,HF.out];rfl,HD.out.more _⟩
   ·have hT:(a==b)=true:=by
     rw[beq_iff_eq];exact Zkx [] a b HL.out fun j hj=>hp.out j (by omega)
    have HT:=Q0 hT;clear hT;go_wp2_with fail;go_ret;exact⟨by rw[hr.out,HT.out];rfl,HD.out⟩
 ·have hne:((a.length:Int) != (b.length:Int))=true:=by rw[bne_iff_ne];omega
  have hF:(a==b)=false:=Q3 fun e=>hl (by rw[e])
  rw[hF];go_enter Tryz.func74,Tryz.ntmps74;go_wp2_with fail;go_ret;exact⟨rfl,Drawn.refl _⟩
theorem Zf6(n0 b:Nat)(l s:B)(w:World)(h:Lib.IsBuilder 169 5 n0 b (Lib.byteCells l) w)(hlen:l.length+s.length≤140737488355328)(hBw:n0≤w.heap.size) :
  Calls Tryz.prog 106 #[.pointer (some ⟨b,0,none⟩),S s] w fun e w'=>e=.returned (.tuple #[I s.length,.nilIface])∧Lib.IsBuilder 169 5 n0 b (Lib.byteCells (l++s)) w'∧Below n0 w w':=by
 have hsz:(⟨s.toArray⟩:ByteArray).size=s.length:=by simp[ByteArray.size]
 refine(Any.Builder_WriteString { Tryz.lays156 with } Tryz.Builder_Extra_156 n0 b (Lib.byteCells l) ⟨s.toArray⟩ w h (by rw[Lib.byteCells_length,hsz];exact hlen) hBw).mono ?_
 rintro e w' ⟨rfl,h1,h2⟩;refine⟨by rw[hsz],.inr ?_,h2⟩
 have e1:Lib.byteCells l++Lib.strCells ⟨s.toArray⟩=Lib.byteCells (l++s):=by rw[Lib.strCells_eq];simp[Lib.byteCells]
 rw[←e1];exact h1
abbrev Pow(w:World):Prop:=Lib.TabIs Tryz.prog w "internal/strconv.uint64pow10" .u64 Lib.pow10Tab
theorem Pow.ext{w w':World}(h:Pow w)(ho:Ext w w'):Pow w':=
 Go.Joins.tab_stays (g:=13) (by kernel_rfl) h ho.extBelow (Nat.le_refl _)
theorem Za1(w:World)(n:Nat)(hn:n≤1000000000)(h:Pow w):Calls Tryz.prog 107 #[I n] w fun e w'=>e=.returned (S (Lib.decDigits n))∧Ext w w':=by
 refine(Tryz.strconv_Itoa n (by omega) (by omega) w h).mono ?_
 rintro e w' ⟨rfl,k,os,rfl⟩;exact⟨by rw[Lib.itoa_nonneg],Only.of_below (Lib.below_grow w.heap.size w (Nat.le_refl _) k os)⟩
def cnt(s:B):B:=Lib.decDigits s.length++58 :: s
theorem Z1e(a b:B):((⟨a.toArray⟩:ByteArray)++⟨b.toArray⟩)=⟨(a++b).toArray⟩:=by
 ext1
 simp[ByteArray.data_append]
theorem Z5r(n:Nat)(h:n≤1000000000):(Lib.decDigits n).length≤20:=by
 rw[Lib.decDigits_length];exact Lib.nDigits_le20 n (by omega)
theorem Z7j(w:World)(s:B)(hs:s.length≤1000000)(h:Pow w):Calls Tryz.prog 189 #[S s] w fun e w'=>e=.returned (S (cnt s))∧Ext w w':=by
 have hi:=Za1 w s.length (by omega) h
 have hd:=Z5r s.length (by omega)
 have h1:¬9223372036854775807<(Lib.decDigits s.length).length+1:=by omega
 have h2:¬9223372036854775807<(Lib.decDigits s.length).length+1+s.length:=by omega
 have HI:=Q0 hi;clear hi h hd;go_enter Tryz.func189,Tryz.ntmps189;go_wp2_with (go_at_call 107;refine HI.out.mono ?_;rintro e w1 ⟨rfl,h1⟩);go_ret;refine⟨?_,h1⟩;have e1:((⟨(Lib.decDigits s.length).toArray⟩:ByteArray)++⟨#[58]⟩++⟨s.toArray⟩)=⟨(cnt s).toArray⟩:=by
  rw[show (⟨#[58]⟩:ByteArray)=⟨([58]:B).toArray⟩ from rfl,Z1e,Z1e]
  simp[cnt]
 exact congrArg (fun x=>Ending.returned (Value.string x)) e1
def Z41(w:World):Prop:=(∃t p,w.cell? ⟨17,0,none⟩=some (.iface t p))∧∃t p,w.cell? ⟨18,0,none⟩=some (.iface t p)
theorem Z41.ext{w w':World}(h:Z41 w)(ho:Ext w w'):Z41 w':=by
 obtain⟨⟨t,p,h1⟩,t',p',h2⟩:=h;exact⟨⟨t,p,ho.cellOf h1 (fun h=>h)⟩,t',p',ho.cellOf h2 (fun h=>h)⟩
theorem Zq0(w:World)(s:B)(hs:s.length≤1000000)(v:Int)(h:Lib.atoiAll s=.ok v) :
  Calls Tryz.prog 305 #[S s] w fun e w'=>e=.returned (.tuple #[I v,.nilIface])∧Ext w w':=by
 refine(Tryz.strconv_Atoi_ok ⟨s.toArray⟩ (by simp[ByteArray.size];omega) v h w).mono ?_
 rintro e w' ⟨rfl,rfl|⟨t,rfl⟩⟩
 ·exact⟨rfl,Only.refl _ _⟩
 ·exact⟨rfl,Only.of_below (Lib.bytesWorld_below _ _ _)⟩
def IfaceIs(w:World)(e:Ending)(w':World):Prop:=∃v t p,e=.returned (.tuple #[I v,.iface t p])∧Ext w w'
theorem atoi_bad(w:World)(s:B)(hs:s.length≤1000000)(hv:Z41 w)(h:∀v,Lib.atoiAll s≠.ok v) :
  Calls Tryz.prog 305 #[S s] w (IfaceIs w):=by
 obtain⟨⟨t,p,h1⟩,t',p',h2⟩:=hv;cases hq:Lib.atoiAll s with
 | ok v=>exact absurd hq (h v)
 | range=>
  refine(Tryz.strconv_Atoi_range ⟨s.toArray⟩ (by simp[ByteArray.size];omega) hq _ w h2 (.inr ⟨_,_,rfl⟩)).mono ?_
  rintro e w' ⟨N,rfl,_,_,hb⟩;exact⟨_,_,_,rfl,Only.of_below hb⟩
 | _=>
  refine(Any.strconv_Atoi_syntax Tryz.laysC172 ⟨s.toArray⟩ (by simp[ByteArray.size];omega) hq _ w h1 (.inr ⟨_,_,rfl⟩)).mono ?_
  rintro e w' ⟨N,rfl,_,_,hb⟩;exact⟨_,_,_,rfl,Only.of_below hb⟩
def numB(k:Nat)(s:B):Option Nat:=
 match Lib.atoiAll s with
 | .ok v=>if s.length≤k∧0≤v∧Lib.decDigits v.toNat=s then some v.toNat else none
 | _=>none
theorem Zcp:∀(l:B)(acc u:Nat),Lib.parseUint10 acc l=.ok u→u<(acc+1)*10 ^ l.length
 | [],acc,u,h=>by
  simp only[Lib.parseUint10]at h
  injection h with h
  simp;omega
 | c :: r,acc,u,h=>by
  simp only[Lib.parseUint10]at h;split at h
  ·rename_i hc
   split at h
   ·cases h
   ·split at h
    ·cases h
    ·have:=Zcp r _ u h
     rw[List.length_cons,Nat.pow_succ];refine Nat.lt_of_lt_of_le this ?_;rw[Nat.mul_comm (10 ^ r.length) 10,←Nat.mul_assoc];exact Nat.mul_le_mul_right _ (by omega)
  ·cases h
theorem Zq1{s:B}{v:Int}(h:Lib.atoiAll s=.ok v):v<10 ^ s.length:=by
 cases s with
 | nil=>cases h
 | cons c r=>
  simp only[Lib.atoiAll]at h;split at h
  ·cases h
  ·cases h
  ·rename_i u hu
   have hu2:(u:Int)<10 ^ (c :: r).length:=by
    have hl:(if c.toNat=43∨c.toNat=45 then r else c :: r).length≤(c :: r).length:=by split <;> simp
    generalize (if c.toNat=43∨c.toNat=45 then r else c :: r)=q at hu hl
    unfold Lib.parseMag at hu;by_cases hq:q=[]
    ·rw[if_pos hq]at hu;cases hu
    ·rw[if_neg hq]at hu
     have:=Zcp _ 0 u hu
     have h2:=Nat.pow_le_pow_right (show 0<10 by omega) hl
     have h3:u<10 ^ (c :: r).length:=by omega
     exact_mod_cast h3
   split at h
   ·cases h
   ·split at h
    ·cases h
    ·injection h with h
     have h0:(0:Int)<10 ^ (c :: r).length:=by exact_mod_cast Nat.pow_pos (show 0<10 by omega)
     split at h <;> omega
theorem Zb0{k:Nat}{s:B}{n:Nat}(h:numB k s=some n):Lib.atoiAll s=.ok (n:Int)∧s.length≤k∧Lib.decDigits n=s:=by
 unfold numB at h;split at h
 ·rename_i v hv
  split at h
  ·rename_i hc
   cases h;obtain⟨h1,h2,h3⟩:=hc;exact⟨by rw[hv,Int.toNat_of_nonneg h2],h1,h3⟩
  ·cases h
 ·cases h
theorem Zpu(w:World)(n:Nat)(hn:n<256):(convert 167 9 (.slice (some ⟨w.heap.size,0,none⟩) 1 1)).run Tryz.prog (w.alloc (.cells #[.int .u8 n] 5 (0,0)))=.ok (S [UInt8.ofNat n]) (w.alloc (.cells #[.int .u8 n] 5 (0,0))):=by
 refine run_convert_bytes_back _ 167 9 5 ⟨w.heap.size,0,none⟩ 1 [UInt8.ofNat n] Tryz.underlying167 Tryz.underlying5 Tryz.underlying9 (fun j hj=>?_)
 obtain rfl:j=0:=by simpa using hj
 have e:(UInt8.ofNat n).toNat=n:=by simp;omega
 simp[Addr.add,e]
theorem IntKind.wraps_u8_(n:Nat)(h:n<256):IntKind.u8.wrap (n:Int)=n:=by simp[IntKind.wrap,IntKind.bits,IntKind.signed];omega
theorem Zev(w:World)(n:Nat)(hn:n<256):Calls Tryz.prog 197 #[I n] w fun e w'=>e=.returned (S [UInt8.ofNat n])∧Ext w w':=by
 have hw:IntKind.u8.wrap (n:Int)=n:=IntKind.wraps_u8_ n hn
 have hc:=Zpu w n hn;go_enter Tryz.func197,Tryz.ntmps197;go_wp2;go_ret;exact⟨rfl,Only.alloc _ _ _⟩
theorem Zpx(n:Nat)(hn:n≤1000000000):∀w m,m=-(n:Int)→Calls Tryz.prog 177 #[.int .i64 m] w fun e w'=>e=.returned (S (Lib.decDigits n))∧Ext w w':=by
 induction n using Nat.strongRecOn with
 | _ n ih=>
  intro w m hm
  by_cases h10:n<10
  ·have hb:=Zev w (48+n) (by omega)
   have hd:Lib.decDigits n=[UInt8.ofNat (48+n)]:=Lib.decDigits_one h10
   rw[hd];obtain⟨z,hz⟩:∃z:Int,z=((48+n:Nat):Int):=⟨_,rfl⟩;have e1:(48:Int)-m=z:=by omega
   have c1:-10<m:=by omega
   have b1:0≤z:=by omega
   have b2:z≤100:=by omega
   have b3:m≤0:=by omega
   rw[←hz]at hb;generalize UInt8.ofNat (48+n)=u at hb ⊢;have HB:=Q0 hb;clear hb hd hm hz ih;go_enter Tryz.func177,Tryz.ntmps177;go_wp2_with (go_at_call 197;refine HB.out.mono ?_;rintro e w1 ⟨rfl,h1⟩);go_ret;exact⟨rfl,h1⟩
  ·obtain⟨q,hq⟩:∃q:Int,q=-((n / 10:Nat):Int):=⟨_,rfl⟩
   have hi:=ih (n / 10) (by omega) (by omega) w q hq
   have hb:=fun w=>Zev w (48+n % 10) (by omega)
   have hd:Lib.decDigits n=Lib.decDigits (n / 10)++[UInt8.ofNat (48+n % 10)]:=by rw[Lib.decDigits,dif_neg h10]
   have hl:=Z5r (n / 10) (by omega)
   have h1:¬9223372036854775807<(Lib.decDigits (n / 10)).length+1:=by omega
   rw[hd];obtain⟨z,hz⟩:∃z:Int,z=((48+n % 10:Nat):Int):=⟨_,rfl⟩;have e2:m.tdiv 10=q:=by rw[hm,Int.neg_tdiv,hq];rfl
   have e3:(48:Int)-m.tmod 10=z:=by
    rw[hm,Int.neg_tmod,show ((n:Int).tmod 10)=((n % 10:Nat):Int) from rfl]
    omega
   have c1:¬-10<m:=by omega
   have b1:0≤z:=by omega
   have b2:z≤100:=by omega
   have b3:m≤0:=by omega
   have b4:-1000000000≤m:=by omega
   have b5:-1000000000≤q:=by omega
   have b6:q≤0:=by omega
   simp only[←hz]at hb;generalize UInt8.ofNat (48+n % 10)=u at hb ⊢;have HI:=Q0 hi;have HB:=Q0 hb;generalize hD:Lib.decDigits (n / 10)=D at HI h1 ⊢;clear hi hb hm hd ih hz hq hl hD;go_enter Tryz.func177,Tryz.ntmps177;go_wp2_with (first|(go_at_call 177;refine HI.out.mono ?_;rintro e w1 ⟨rfl,h2⟩;have H2:=Q0 h2;clear h2)|(go_at_call 197;refine(HB.out _).mono ?_;rintro e w3 ⟨rfl,h3⟩));go_ret;exact⟨congrArg (fun x=>Ending.returned (Value.string x)) (Z1e D [u]),H2.out.ext h3⟩
theorem Z4e(w:World)(n:Nat)(hn:n≤1000000000):Calls Tryz.prog 109 #[I n] w fun e w'=>e=.returned (S (Lib.decDigits n))∧Ext w w':=by
 have hi:=Zpx n hn w (-(n:Int)) rfl;have c1:¬((n:Int)<0):=by omega
 have HI:=Q0 hi;clear hi;go_enter Tryz.func109,Tryz.ntmps109;go_wp2_with (go_at_call 177;refine HI.out.mono ?_;rintro e w1 ⟨rfl,h1⟩);go_ret;exact⟨rfl,h1⟩
abbrev IsB(n0 b:Nat)(l:B)(w:World):Prop:=Lib.IsBuilder 169 5 n0 b (Lib.byteCells l) w
theorem Z8l{n0 b:Nat}{p:Value}{bs:List Value}{w w':World}(h:Lib.BuilderAt 169 5 n0 b p bs w)(ho:Ext w w'):Lib.BuilderAt 169 5 n0 b p bs w':=by
 obtain⟨h1,v,h2,h3,h4⟩:=h;exact⟨h1,v,ho.heapOf h2 (fun h=>h),ho.row h3 (fun _ _ h=>h),h4⟩
theorem IsB.ext{n0 b:Nat}{l:B}{w w':World}(h:IsB n0 b l w)(ho:Ext w w'):IsB n0 b l w':=by
 rcases h with h|h
 ·exact .inl (Z8l h ho)
 ·exact .inr (Z8l h ho)
theorem IsB.fresh(w:World):IsB w.heap.size w.heap.size [] (w.alloc (.cells #[.pointer none,.slice none 0 0] 169 (0,0))):=
 .inl ⟨Nat.le_refl _,.slice none 0 0,(MapKept.heap_alloc w _).1,World.ownsRow_nil _ _ _ _,by intro h;cases h⟩
theorem Z4b{w w1 w2:World}(h:Ext w w1)(hb:Below w.heap.size w1 w2):Ext w w2:=Only.of_below (h.extBelow.trans hb)
def keyT(kind word:B)(ins:List B):B:=cnt kind++cnt word++ins.flatMap cnt
theorem Z95(s:B)(h:s.length≤1000000):(cnt s).length≤21+s.length:=by
 have:=Z5r s.length (by omega)
 simp[cnt];omega
theorem Z4y{ins:List B}{j:Nat}{x:B}(hx:ins[j]?=some x):(ins.take (j+1)).flatMap cnt=(ins.take j).flatMap cnt++cnt x:=by
 rw[List.take_add_one,hx];simp
theorem cnt_ba(s:B):((⟨(Lib.decDigits s.length).toArray⟩:ByteArray)++⟨#[58]⟩++⟨s.toArray⟩)=⟨(cnt s).toArray⟩:=by
 rw[show (⟨#[58]⟩:ByteArray)=⟨([58]:B).toArray⟩ from rfl,Z1e,Z1e]
 simp[cnt]
theorem Zks{k:Nat}(h:k<10):UInt8.ofNat (48+k)≠58:=by
 intro e
 have:=congrArg UInt8.toNat e
 simp at this
 omega
theorem Zh5{a b:Nat}(ha:a<10)(hb:b<10)(e:UInt8.ofNat (48+a)=UInt8.ofNat (48+b)):a=b:=by
 have:=congrArg UInt8.toNat e
 simp only[UInt8.toNat_ofNat']at this;omega
theorem dec_no(u:Nat):(58:UInt8)∉Lib.decDigits u:=by
 induction u using Nat.strongRecOn with
 | _ u ih=>
  by_cases h:u<10
  ·rw[Lib.decDigits_one h,List.mem_singleton]
   exact fun e=>Zks h e.symm
  ·rw[Lib.decDigits,dif_neg h,List.mem_append,List.mem_singleton]
   rintro(e|e)
   ·exact ih (u / 10) (by omega) e
   ·exact Zks (Nat.mod_lt u (by decide)) e.symm
theorem Zpm(u:Nat):Lib.decDigits u≠[]:=by
 by_cases h:u<10
 ·rw[Lib.decDigits_one h];simp
 ·rw[Lib.decDigits,dif_neg h];simp
theorem dec_inj:∀(u v:Nat),Lib.decDigits u=Lib.decDigits v→u=v:=by
 intro u
 induction u using Nat.strongRecOn with
 | _ u ih=>
  intro v e
  by_cases h:u<10
  ·by_cases h':v<10
   ·rw[Lib.decDigits_one h,Lib.decDigits_one h']at e
    exact Zh5 h h' (by simpa using e)
   ·rw[Lib.decDigits_one h,Lib.decDigits.eq_def v,dif_neg h']at e
    have:=congrArg List.length e
    simp at this
    exact absurd this (Zpm (v / 10))
  ·by_cases h':v<10
   ·rw[Lib.decDigits_one h',Lib.decDigits.eq_def u,dif_neg h]at e
    have:=congrArg List.length e
    simp at this
    exact absurd this (Zpm (u / 10))
   ·rw[Lib.decDigits.eq_def u,Lib.decDigits.eq_def v,dif_neg h,dif_neg h']at e
    obtain⟨e1,e2⟩:=List.append_inj' e rfl;have i1:=ih (u / 10) (by omega) (v / 10) e1
    have i2:=Zh5 (Nat.mod_lt u (by decide)) (Nat.mod_lt v (by decide)) (by simpa using e2)
    omega
theorem Zjr{x:UInt8}:∀{d d' a a':B},x∉d→x∉d'→d++x :: a=d'++x :: a'→d=d'∧a=a'
 | [],[],a,a',_,_,e=>⟨rfl,by simpa using e⟩
 | [],y :: d',a,a',_,h',e=>by
  have:x=y:=by simpa using congrArg List.head? e
  exact absurd (this ▸ List.mem_cons_self) h'
 | y :: d,[],a,a',h,_,e=>by
  have:y=x:=by simpa using congrArg List.head? e
  exact absurd (this ▸ List.mem_cons_self) h
 | y :: d,z :: d',a,a',h,h',e=>by
  rw[List.cons_append,List.cons_append,List.cons.injEq]at e;obtain⟨rfl,e⟩:=e;obtain⟨rfl,rfl⟩:=Zjr (fun hm=>h (List.mem_cons_of_mem _ hm)) (fun hm=>h' (List.mem_cons_of_mem _ hm)) e
  exact⟨rfl,rfl⟩
theorem Zbm{s t r r':B}(e:cnt s++r=cnt t++r'):s=t∧r=r':=by
 unfold cnt at e;rw[List.append_assoc,List.append_assoc,List.cons_append,List.cons_append]at e;obtain⟨e1,e2⟩:=Zjr (dec_no _) (dec_no _) e;exact List.append_inj e2 (dec_inj _ _ e1)
theorem cnt_ne(s r:B):cnt s++r≠[]:=by simp[cnt]
theorem Zko:∀{l l':List B},l.flatMap cnt=l'.flatMap cnt→l=l'
 | [],[],_=>rfl
 | [],y :: l',e=>by rw[List.flatMap_cons]at e;exact absurd e.symm (cnt_ne _ _)
 | x :: l,[],e=>by rw[List.flatMap_cons]at e;exact absurd e (cnt_ne _ _)
 | x :: l,y :: l',e=>by
  rw[List.flatMap_cons,List.flatMap_cons]at e;obtain⟨h1,h2⟩:=Zbm e;rw[h1,Zko h2]
theorem keyT_inj{k w k' w':B}{l l':List B}(e:keyT k w l=keyT k' w' l'):k=k'∧w=w'∧l=l':=by
 unfold keyT at e;rw[List.append_assoc,List.append_assoc]at e;obtain⟨h1,h2⟩:=Zbm e;obtain⟨h3,h4⟩:=Zbm h2;exact⟨h1,h3,Zko h4⟩
theorem Z4z{ins:List B}(h:∀x∈ins,x.length≤3000):∀j,((ins.take j).flatMap cnt).length≤4000*j
 | 0=>by simp
 | j+1=>by
  have ih:=Z4z h j;cases hx:ins[j]? with
  | none=>
   have:ins.take (j+1)=ins.take j:=by rw[List.take_add_one,hx];simp
   rw[this];omega
  | some x=>
   have hl:=Z95 x (by have:=h x (Q4 hx);omega)
   have:=h x (Q4 hx)
   rw[Z4y hx,List.length_append];omega
theorem Z53(w:World)(kind word:B)(v:Value)(ins:List B)(hv:Rd S w v ins)(h1:kind.length≤100)(h2:word.length≤100)(h3:ins.length≤12)(h4:∀x∈ins,x.length≤3000)(hp:Pow w) :
  Calls Tryz.prog 123 #[S kind,S word,v] w fun e w'=>e=.returned (S (keyT kind word ins))∧Ext w w':=by
 obtain⟨a,cap,rfl,_,_,hc⟩:=hv;have l1:=Z95 kind (by omega)
 have l2:=Z95 word (by omega)
 have hck:∀w1,Pow w1→Calls Tryz.prog 189 #[S kind] w1 _:=fun w1 h=>Z7j w1 kind (by omega) h
 have hcw:∀w1,Pow w1→Calls Tryz.prog 189 #[S word] w1 _:=fun w1 h=>Z7j w1 word (by omega) h
 obtain⟨K,hK⟩:∃K,K=keyT kind word ins:=⟨_,rfl⟩;obtain⟨ck,hk⟩:∃ck,ck=cnt kind:=⟨_,rfl⟩;obtain⟨cw,hw⟩:∃cw,cw=cnt word:=⟨_,rfl⟩;have hKe:K=ck++cw++ins.flatMap cnt:=by rw[hK,hk,hw];rfl
 rw[←hK];simp only[←hk]at hck;simp only[←hw]at hcw;rw[←hk]at l1;rw[←hw]at l2;have l3:¬9223372036854775807<ck.length+cw.length:=by omega
 have l4:ck.length+cw.length≤242:=by omega
 have HKE:=Q0 hKe;have HCK:=Q0 hck;have HCW:=Q0 hcw;have HC:=Q0 hc;have H4:=Q0 h4;have HP:=Q0 hp;clear hc hKe hck hcw hK hk hw h4 hp l1 l2 h1 h2;go_enter Tryz.func123,Tryz.ntmps123;go_wp2_with fail;refine(HCK.out _ (HP.out.ext (Only.alloc (fun _=>False) w _))).mono ?_
 rintro e w1 ⟨rfl,ho⟩;have HO1:=Q0 ((Only.alloc (fun _=>False) w (.cells #[.pointer none,.slice none 0 0] 169 (0,0))).ext ho)
 have HB1:=Q0 ((IsB.fresh w).ext ho);clear ho;go_wp2_with fail;refine(HCW.out _ (HP.out.ext HO1.out)).mono ?_;rintro e w2 ⟨rfl,ho⟩;have HO2:=Q0 (HO1.out.ext ho);have HB2:=Q0 (HB1.out.ext ho);clear ho;go_wp2_with fail;rw[Z1e];refine(Zf6 w.heap.size w.heap.size [] (ck++cw) w2 HB2.out (by simp;omega) HO2.out.size).mono ?_
 rintro e w3 ⟨rfl,hb3,hbl⟩;have HO3:=Q0 (Z4b HO2.out hbl);have HB3:=Q0 hb3;clear hb3 hbl HB1 HB2 HCK HCW HO1 HO2;go_wp2_with fail;obtain⟨b,hbE⟩:∃b,b=w.heap.size:=⟨_,rfl⟩;have HB3':Hid (IsB w.heap.size b (ck++cw) w3):=by rw[hbE];simpa using HB3
 rw[←hbE];clear hbE HB3;go_loopw [18] (fun i wr=>∃j:Nat,j≤ins.length∧i=.int .i64 j∧Hid (Ext w wr)∧Hid (IsB w.heap.size b (ck++cw++(ins.take j).flatMap cnt) wr)) (fun i _=>ins.length-(intOf i).toNat)
 case atStart=>exact⟨0,Nat.zero_le _,rfl,HO3,by simpa using HB3'⟩
 case round=>
  obtain⟨j,hj,rfl,HX,HB⟩:=hrel;by_cases hlt:j<ins.length
  ·have hltz:(j:Int)<(ins.length:Int):=by omega
   obtain⟨b0,off,rfl,hcell⟩:=HC.out (by intro h;rw[h]at hlt;simp at hlt)
   obtain⟨x,hx⟩:∃y,ins[j]?=some y:=⟨_,Q1 hlt⟩;have d0:wr.cell? ⟨b0,off+j,none⟩=some (S x):=HX.out.cellOf (hcell j x hx) (fun h=>h)
   have hxl:=H4.out x (Q4 hx);have hst:=Z4y hx;have hfl:=Z4z H4.out j;have hcx:=Z7j wr x (by omega) (HP.out.ext HX.out)
   have hcl:=Z95 x (by omega)
   obtain⟨cx,hcx'⟩:∃cx,cx=cnt x:=⟨_,rfl⟩;rw[←hcx']at hcx hst hcl;have HST:=Q0 hst;have HCX:=Q0 hcx;clear hcell hx hst hcx hcx';obtain⟨F,hF⟩:∃F,F=(ins.take j).flatMap cnt:=⟨_,rfl⟩;rw[←hF]at HB HST hfl;clear hF;go_wp2_with fail;refine HCX.out.mono ?_;rintro e w5 ⟨rfl,ho⟩;have HX5:=Q0 (HX.out.ext ho);have HB5:=Q0 (HB.out.ext ho);clear ho;go_wp2_with fail;refine(Zf6 w.heap.size b _ cx w5 HB5.out (by simp;omega) HX5.out.size).mono ?_
   rintro e w6 ⟨rfl,hb6,hbl⟩;have HX6:=Q0 (Z4b HX5.out hbl);have HB6:=Q0 hb6;clear hb6 hbl;go_wp2_with fail;go_roundw
   case rel=>exact⟨j+1,by omega,by go_num,HX6,Q0 (by rw[HST.out];simpa using HB6.out)⟩
   case measure=>simp[intOf];omega
  ·have hltz:¬((j:Int)<(ins.length:Int)):=by omega
   have ht:ins.take j=ins:=List.take_of_length_le (by omega)
   rw[ht,←HKE.out]at HB;go_wp2_with fail;refine(Tryz.Builder_String_any w.heap.size b K wr HB.out HX.out.size).mono ?_;rintro e w6 ⟨rfl,hbl⟩;have HX6:=Q0 (Z4b HX.out hbl);clear hbl;go_wp2_with fail;go_ret;exact⟨rfl,HX6.out⟩
end Go.Proofs.YtnmhaipjfpongacGreatDoor
