/- A part of this claim's proof;each theorem bears its own conditions. -/
import Derived.Test.YtnmhaipjfpongacGreatDoorPR3
set_option maxRecDepth 100000
set_option maxHeartbeats 2000000
namespace Go.Proofs.YtnmhaipjfpongacGreatDoor
open Go.ChangeShapes Go.WideShapes Go.ChangeAt Go.RowKit
open Go.MapKept (heap_alloc)
theorem Zj4(s:B):(Lib.index s [47]=-1∧(47:UInt8)∉s)∨∃o:Nat,Lib.index s [47]=o∧o<s.length∧s=s.take o++47 :: s.drop (o+1)∧(47:UInt8)∉s.take o:=by
 rw[Zbb];have hge:=Lib.indexByte_ge s 47;by_cases hm:Lib.indexByte s 47=-1
 ·left
  refine⟨hm,fun hx=>?_⟩
  obtain⟨i,hi⟩:=List.getElem?_of_mem hx;exact Lib.indexByte_none hm i hi
 ·right
  obtain⟨o,ho⟩:=Int.eq_ofNat_of_zero_le (show 0≤Lib.indexByte s 47 by omega)
  have⟨h1,h2⟩:=Lib.indexByte_some ho
  have hlt:o<s.length:=(Q2 h1).1;refine⟨o,ho,hlt,?_,?_⟩
  ·have:=(List.take_append_drop o s).symm
   rw[List.drop_eq_getElem_cons hlt]at this;have e:s[o]=47:=by rw[Q1 hlt]at h1;simpa using h1
   rw[e]at this;exact this
  ·intro hx
   obtain⟨i,hi⟩:=List.getElem?_of_mem hx;rw[List.getElem?_take]at hi;split at hi
   ·rename_i hi2;exact h2 i hi2 hi
   ·cases hi
theorem Z7k:∀(n:Nat)(s:B),s.length≤n→Lib.count s [47]=s.count 47
 | n,s,hn=>by
  rcases Zj4 s with⟨h,hm⟩|⟨o,ho,hlt,hs,hm⟩
  ·rw[Lib.count_miss h,List.count_eq_zero.2 hm]
  ·rw[Lib.count_hit (by simp) ho]
   cases n with
   | zero=>omega
   | succ n=>
    have ih:=Z7k n (s.drop (o+1)) (by simp;omega)
    rw[show o+([47]:B).length=o+1 from rfl,ih]
    conv=>rhs;rw[hs]
    rw[List.count_append,List.count_cons_self,List.count_eq_zero.2 hm];omega
theorem Z93:∀(s:B),(cut s).length=s.count 47+1
 | []=>rfl
 | c :: r=>by
  have ih:=Z93 r;rw[cut];split
  ·rename_i hc;subst hc;simp[ih]
  ·rename_i hc
   cases hr:cut r with
   | nil=>exact absurd hr (Zkt r)
   | cons x xs=>
    rw[hr]at ih;have hc2:(c==47)=false:=Q3 hc;simp only[Z74,List.length_cons,List.count_cons,hc2]at ih ⊢;simpa using ih
theorem Zle(s:B):(Lib.splitB ⟨#[47]⟩ 0 (Lib.countB ⟨s.toArray⟩ ⟨#[47]⟩) ⟨s.toArray⟩).map Value.string=(cut s).map S:=by
 have h1:=Lib.splitB_data ⟨#[47]⟩ 0 (Lib.countB ⟨s.toArray⟩ ⟨#[47]⟩) ⟨s.toArray⟩;have hc:Lib.countB ⟨s.toArray⟩ ⟨#[47]⟩=s.count 47:=Z7k s.length s (Nat.le_refl _);rw[hc]at h1 ⊢;have h2:(Lib.splitB ⟨#[47]⟩ 0 (s.count 47) ⟨s.toArray⟩).map (·.data.toList)=cut s:=by
  rw[h1];exact Zcg _ s (Nat.le_refl _)
 rw[←h2,List.map_map];rfl
def Z1m(w:World):Prop:=∃m:Int,w.cell? ⟨14,0,none⟩=some (.int .i64 m)
theorem Z1m.ext{w w':World}(h:Z1m w)(ho:Ext w w'):Z1m w':=by obtain⟨m,hm⟩:=h;exact⟨m,ho.cellOf hm (fun h=>h)⟩
theorem Znq(w:World)(s:B)(hs:s.length≤1000000)(hm:Z1m w) :
  Calls Tryz.prog 207 #[S s,.string ⟨#[47]⟩] w fun e w'=>e=.returned (.slice (some ⟨w.heap.size,0,none⟩) (cut s).length (cut s).length)∧w'=w.alloc (.cells ((cut s).map S).toArray 9):=by
 obtain⟨m,hm⟩:=hm;refine(Tryz.strings_Split ⟨s.toArray⟩ ⟨#[47]⟩ m w (by simp[ByteArray.size];omega) hm (by decide)).mono ?_
 rintro e w' ⟨rfl,rfl⟩;rw[Zle,show Lib.countB ⟨s.toArray⟩ ⟨#[47]⟩=s.count 47 from Z7k s.length s (Nat.le_refl _),Z93]
 exact⟨rfl,rfl⟩
def TestsX(g:Nat)(caps:Array Value)(p:B→Bool)(w:World):Prop:=
 ∀w1,Ext w w1→∀x,Calls Tryz.prog g (#[S x]++caps) w1 fun e w'=>e=.returned (.bool (p x))∧Ext w1 w'
theorem Ziz(g:Nat)(x0:Value)(p:B→Bool)(w:World)(v:Value)(l:List B)(hv:Rd S w v l)(eg:∀args w,(callFunc g args).run Tryz.prog w=.ok (.enter g args) w)(hp:TestsX g #[x0] p w) :
  Calls Tryz.prog 285 #[v,.func (.func g) #[] #[x0]] w fun e w'=>(∃r:Int,e=.returned (I r)∧(r ≥ 0↔l.any p=true)∧-1≤r)∧Ext w w':=by
 obtain⟨a,cap,rfl,hcap,hm,hc⟩:=hv;have hm':l.length≤9223372036854775807:=by unfold maxLen at hm;omega
 clear hm;have HP:=Q0 hp;have HC:=Q0 hc;clear hp hc;go_enter Tryz.func285,Tryz.ntmps285;go_wp2;go_loopw [8] (fun i wr=>∃k:Nat,k≤l.length∧i=.int .i64 k∧Hid (∀j x,j<k→l[j]?=some x→p x=false)∧Hid (Ext w wr)) (fun i _=>l.length+1-(intOf i).toNat)
 case atStart=>exact⟨0,Nat.zero_le _,rfl,Q0 (fun j x h=>absurd h (Nat.not_lt_zero _)),Q0 (Only.refl _ _)⟩
 case round=>
  obtain⟨k,hk,rfl,HB,HX⟩:=hrel;by_cases hlt:k<l.length
  ·obtain⟨b,off,rfl,hcell⟩:=HC.out (by intro h;rw[h]at hlt;simp at hlt)
   obtain⟨x,hx⟩:∃y,l[k]?=some y:=⟨_,Q1 hlt⟩;have hcl:=HX.out.cellOf (hcell k x hx) (fun h=>h)
   have hp1:=HP.out wr HX.out x;have HXX:=Q0 hx;clear hcell hx;cases hq:p x with
   | false=>
    rw[hq]at hp1;have HQ:=Q0 hq;have HP1:=Q0 hp1;clear hq hp1;go_wp2_with fail;refine HP1.out.mono ?_;rintro e w' ⟨rfl,ho⟩;have HX2:=Q0 (HX.out.ext ho);clear ho;go_wp2;go_roundw
    case rel=>exact⟨k+1,by omega,by go_num,Q0 (fun j y hj hy=>by
     rcases Nat.lt_succ_iff_lt_or_eq.1 hj with h|rfl
     ·exact HB.out j y h hy
     ·rw[HXX.out]at hy;cases hy;exact HQ.out),HX2⟩
    case measure=>simp[intOf];omega
   | true=>
    rw[hq]at hp1;have HQ:=Q0 hq;have HP1:=Q0 hp1;clear hq hp1;go_wp2_with fail;refine HP1.out.mono ?_;rintro e w' ⟨rfl,ho⟩;have HX2:=Q0 (HX.out.ext ho);clear ho;go_wp2;go_ret;exact⟨⟨k,rfl,⟨fun _=>List.any_eq_true.2 ⟨x,Q4 HXX.out,HQ.out⟩,fun _=>by omega⟩,by omega⟩,HX2.out⟩
  ·go_wp2
   go_ret;refine⟨⟨-1,rfl,⟨fun h=>by omega,fun h=>?_⟩,by omega⟩,HX.out⟩
   obtain⟨x,hx,hpx⟩:∃x,x∈l∧p x=true:=by simpa using h
   obtain⟨i,hi⟩:=List.getElem?_of_mem hx;have:=HB.out i x (by have:=(Q2 hi).1;omega) hi
   rw[this]at hpx;cases hpx
theorem Zc5(g:Nat)(x0:Value)(p:B→Bool)(w:World)(v:Value)(l:List B)(hv:Rd S w v l)(eg:∀args w,(callFunc g args).run Tryz.prog w=.ok (.enter g args) w)(hp:TestsX g #[x0] p w) :
  Calls Tryz.prog 228 #[v,.func (.func g) #[] #[x0]] w fun e w'=>e=.returned (.bool (l.any p))∧Ext w w':=by
 have hi:=Ziz g x0 p w v l hv eg hp;obtain⟨a,cap,rfl,hcap,hm,hc⟩:=hv;obtain⟨r0,hr0⟩:∃r0,r0=l.any p:=⟨_,rfl⟩;rw[←hr0]at hi ⊢;have HI:=Q0 hi;clear hi hc hp hm hr0 eg;go_enter Tryz.func228,Tryz.ntmps228;go_wp2_with fail;refine HI.out.mono ?_;rintro e w' ⟨⟨r,rfl,hr,hr1⟩,ho⟩;have HO:=Q0 ho;clear ho;cases r0 with
 | true=>
  have h0:0≤r:=hr.2 rfl;clear hr;go_wp2;go_ret;exact⟨rfl,HO.out⟩
 | false=>
  have h0:¬0≤r:=fun h=>by cases hr.1 h
  clear hr;go_wp2;go_ret;exact⟨by show Ending.returned (.bool (decide (0≤r)))=_;rw[decide_eq_false (show ¬0≤r by omega)],HO.out⟩
theorem Zlx(w:World)(b:Nat)(st:Bool)(s:B)(h:w.cell? ⟨b,0,none⟩=some (.bool st)) :
  Calls Tryz.prog 229 #[S s,.pointer (some ⟨b,0,none⟩)] w fun e w'=>e=.returned (.bool (!Z1j st s))∧Ext w w':=by
 have HN:=Q0 (name_any w st s);go_enter Tryz.func229,Tryz.ntmps229;go_wp2_with fail;refine HN.out.mono ?_;rintro e w' ⟨rfl,ho⟩;have HO:=Q0 ho;clear ho;go_wp2;go_ret;exact⟨rfl,HO.out⟩
theorem Zek:∀args w,(callFunc 229 args).run Tryz.prog w=.ok (.enter 229 args) w:=fun args w=>by kernel_rfl
def Zbt(w:World)(b:Nat)(l:List B):Prop:=∃t,w.heap[b]?=some (.cells (l.map S).toArray t (0,0))
theorem Zbt.ext{w w':World}{b:Nat}{l:List B}(h:Zbt w b l)(ho:Ext w w'):Zbt w' b l:=by obtain⟨t,h⟩:=h;exact⟨t,ho.heapOf h (fun h=>h)⟩
theorem Zbt.rd{w:World}{b:Nat}{l:List B}(h:Zbt w b l)(hl:l.length≤maxLen):Rd S w (.slice (some ⟨b,0,none⟩) l.length l.length) l:=by
 obtain⟨t,h⟩:=h;refine⟨_,_,rfl,Nat.le_refl _,hl,fun _=>⟨b,0,rfl,fun i x hx=>?_⟩⟩
 rw[Z00 h,Nat.zero_add];simp[hx]
def PartsIs(w:World)(st:Bool)(s:B)(e:Ending)(w':World):Prop:=
 Ext w w'∧((Z2b st (cut s)=true∧∃b,e=.returned (.slice (some ⟨b,0,none⟩) (cut s).length (cut s).length)∧Zbt w' b (cut s))∨(Z2b st (cut s)=false∧e=.returned (.slice none 0 0)))
theorem Z94(s:B):(cut s).length≤s.length+1:=by rw[Z93];have:=List.count_le_length (a:=(47:UInt8)) (l:=s);omega
theorem Zoh(w:World)(st:Bool)(s:B)(hs:s.length≤1000000)(hm:Z1m w):Calls Tryz.prog 178 #[S s,.bool st] w (PartsIs w st s):=by
 have hcl:=Z94 s;have hA:Ext w (w.alloc (.cells #[.bool st] 4)):=Only.alloc _ _ _;have hsz:(w.alloc (.cells #[.bool st] 4)).heap.size=w.heap.size+1:=by simp
 have hspl:=Znq _ s hs (hm.ext hA);have hcell:=(Z00 (heap_alloc w (.cells #[.bool st] 4)).1 0).trans (rfl:(#[Value.bool st]:Array Value)[0]?=some (.bool st));obtain⟨w1,hW⟩:∃w1,w.alloc (.cells #[.bool st] 4)=w1:=⟨_,rfl⟩;rw[hW]at hspl hcell hA hsz;have hB:Ext w1 (w1.alloc (.cells ((cut s).map S).toArray 9)):=Only.alloc _ _ _;have hL:Zbt (w1.alloc (.cells ((cut s).map S).toArray 9)) w1.heap.size (cut s):=⟨_,(heap_alloc w1 _).1⟩;obtain⟨w2,hW2⟩:∃w2,w1.alloc (.cells ((cut s).map S).toArray 9)=w2:=⟨_,rfl⟩;rw[hW2]at hspl hB hL;have hcon:=Zc5 229 (.pointer (some ⟨w.heap.size,0,none⟩)) (fun x=>!Z1j st x) w2 _ (cut s) (hL.rd (by unfold maxLen;omega)) Zek
  (fun w3 h3 x=>Zlx w3 _ st x (h3.cellOf (hB.cellOf hcell (fun h=>h)) (fun h=>h)))
 obtain⟨n,hn⟩:∃n,n=(cut s).length:=⟨_,rfl⟩;have hpk:Z2b st (cut s)=(decide (n≤5)&&!((cut s).any fun x=>!Z1j st x)):=by rw[hn];unfold Z2b;rw[List.all_eq_not_any_not]
 obtain⟨q,hq⟩:∃q,q=(cut s).any fun x=>!Z1j st x:=⟨_,rfl⟩
 rw[←hq]at hpk hcon;rw[←hn]at hspl hcon hcl;have HS:=Q0 hspl;have HC:=Q0 hcon;have HL:=Q0 hL;have HE:=Q0 (hA.ext hB);have HP:=Q0 hpk;have HN:=Q0 hn;clear hspl hcon hL hA hB hsz hcell hpk hq hn hm;by_cases h5:n≤5
 ·have h5':¬(5<(n:Int)):=by omega
  go_enter Tryz.func178,Tryz.ntmps178
  go_wp2_with fail;refine HS.out.mono ?_
  rintro e w' ⟨rfl,hw'⟩;subst hw';clear hW HS;go_wp2_with fail;refine HC.out.mono ?_;rintro e w' ⟨rfl,ho⟩;have HO:=Q0 (HE.out.ext ho);have HL2:=Q0 (HL.out.ext ho);clear ho HC HL HE;cases q with
  | true=>
   go_wp2
   go_ret;exact⟨HO.out,.inr ⟨by rw[HP.out];simp,rfl⟩⟩
  | false=>
   go_wp2
   go_ret;exact⟨HO.out,.inl ⟨by rw[HP.out];simpa using h5,_,by rw[←HN.out];rfl,HL2.out⟩⟩
 ·have h5':(5<(n:Int)):=by omega
  go_enter Tryz.func178,Tryz.ntmps178
  go_wp2_with fail;refine HS.out.mono ?_
  rintro e w' ⟨rfl,hw'⟩;subst hw';clear hW HS;go_wp2;go_ret;exact⟨HE.out,.inr ⟨by rw[HP.out];simp[h5],rfl⟩⟩
end Go.Proofs.YtnmhaipjfpongacGreatDoor
namespace Go.Proofs.YtnmhaipjfpongacGreatDoor
open Go.ChangeShapes Go.WideShapes Go.ChangeAt Go.RowKit
open Go.MapKept (heap_alloc)
theorem ba_head(c:UInt8)(q:B)(h:0<(⟨(c :: q).toArray⟩:ByteArray).size):(⟨(c :: q).toArray⟩:ByteArray)[0]'h=c:=rfl
theorem ba_tail(c:UInt8)(q:B):(⟨(c :: q).toArray⟩:ByteArray).extract 1 (q.length+1)=⟨q.toArray⟩:=by
 apply ByteArray.ext
 apply Array.ext'
 rw[Lib.extract_data];simp
attribute [local go_sem] ba_head ba_tail
end Go.Proofs.YtnmhaipjfpongacGreatDoor
namespace Go.Proofs.YtnmhaipjfpongacGreatDoor
open Go.ChangeShapes Go.WideShapes Go.ChangeAt Go.RowKit
theorem infoText:(Tryz.prog.info? 9).map (fun i=>(i.zero,i.size,i.bytes))=some (some (.string ⟨#[]⟩),1,16):=by kernel_rfl
theorem Z5a{ops:Array Oper}{rest:List Oper}{o:Oper}{a:Act}{Q:Exit→Act→World→Prop}(s x:Operand)(base:Nat)(v:Value)(l:List B)(k:B)(W:World)(hgd:o.guard=none)
  (ho:o.op=.call { callee:=.builtin .append,args:=#[s,x],argTypes:=#[53,53] }) (hs:a.eval s=v) (hx:a.eval x=.slice (some ⟨W.heap.size,0,none⟩) 1 1)
  (hrow:W.ownsRow base 9 1 v l.length (l.map S)) (hl:l.length≤1000000) (hbase:base≤W.heap.size)
  (hK:∀g cap w',w'.ownsRow base 9 1 (.slice (some ⟨g,0,none⟩) (l.length+1) cap) (l.length+1) ((l++[k]).map S)→Only (fun i=>base≤i) W w'→
   wpList Tryz.prog ops Q rest (a.put o.dst (.slice (some ⟨g,0,none⟩) (l.length+1) cap)) w') :
  wpList Tryz.prog ops Q (o :: rest) a (W.alloc (.cells #[S k] 9 (0,0))):=by
 obtain⟨i0,hi,hz0,hz1,hz2⟩:=info_parts infoText;refine wpList_append_lies _ hgd s x 53 ho base 9 i0 (.string ⟨#[]⟩) 1 16 Tryz.underlying53 hi hz0 hz1 hz2 rfl (by decide) v l.length (l.map S) hs (hrow.alloc _) ⟨W.heap.size,0,none⟩ 1 1 [S k] hx rfl
  (cell_one_new _ _ _) ?_ (by decide) ?_ ?_ ?_ (W.heap.size+1) (by simp) ?_
 ·intro u hu;simp at hu;subst hu;rfl
 ·unfold maxLen;omega
 ·omega
 ·simp;omega
 ·intro g cap w' hown hg _ _
  refine hK g cap w' (by simpa using hown) ((Only.alloc _ W _).thenGrown hg fun i hi=>.inl ?_)
  rcases hrow.2 with⟨rfl,_⟩|⟨g0,cap0,cur,rfl,hg0,_⟩
  ·cases hi
  ·have e:g0=i:=by simpa [Value.ownBlock] using hi
   omega
theorem Z5s(l:B)(a b:Nat):(⟨l.toArray⟩:ByteArray).extract a b=⟨((l.take b).drop a).toArray⟩:=by
 apply ByteArray.ext
 apply Array.ext'
 rw[Lib.extract_data];show ((l.drop a).take (b-a))=_
 rw[List.drop_take]
theorem Z3x{l:B}{j:Nat}{c:UInt8}(h:l[j]?=some c):∀hh:j<(⟨l.toArray⟩:ByteArray).size,(⟨l.toArray⟩:ByteArray)[j]'hh=c:=fun hh=>by
 obtain⟨h1,h2⟩:=Q2 h;rw[←h2];rfl
theorem ba_end(l:B)(k:Nat):(⟨l.toArray⟩:ByteArray).extract k l.length=⟨(l.drop k).toArray⟩:=by
 rw[Z5s,List.take_length]
structure Cutting(s:B)(o:List B)(fr j:Nat):Prop where
 le:fr≤j
 len:j≤s.length
 done:cut s=o++cut (s.drop fr)
 none:∀t,fr≤t→t<j→s[t]?≠some 47
theorem Cutting.olen{s:B}{o:List B}{fr j:Nat}(h:Cutting s o fr j):o.length≤s.length:=by
 have h1:=congrArg List.length h.done;have h2:=Z94 s;have h3:=Zpp (s.drop fr);rw[List.length_append]at h1;omega
theorem Cutting.plain{s:B}{o:List B}{fr j:Nat}(h:Cutting s o fr j):(47:UInt8)∉(s.take j).drop fr:=by
 intro hm
 obtain⟨i,hi⟩:=List.getElem?_of_mem hm;rw[List.getElem?_drop,List.getElem?_take]at hi;split at hi
 ·rename_i hlt
  exact h.none (fr+i) (by omega) hlt hi
 ·cases hi
theorem Cutting.hit{s:B}{o:List B}{fr j:Nat}(h:Cutting s o fr j)(hj:s[j]?=some 47):Cutting s (o++[(s.take j).drop fr]) (j+1) (j+1):=by
 obtain⟨hlt,he⟩:=Q2 hj;refine⟨Nat.le_refl _,hlt,?_,fun t h1 h2=>absurd h2 (by omega)⟩
 have hs:s.drop fr=(s.take j).drop fr++47 :: s.drop (j+1):=by
  have h1:s=s.take j++s.drop j:=(List.take_append_drop j s).symm
  rw[List.drop_eq_getElem_cons hlt,he]at h1
  conv=>lhs;rw[h1]
  rw[List.drop_append_of_le_length (by rw[List.length_take];have:=h.le;omega)]
 rw[h.done,hs,Zjd _ _ h.plain];simp
theorem Cutting.miss{s:B}{o:List B}{fr j:Nat}{c:UInt8}(h:Cutting s o fr j)(hj:s[j]?=some c)(hc:c≠47):Cutting s o fr (j+1):=by
 have hlt:=(Q2 hj).1;refine⟨by have:=h.le;omega,hlt,h.done,fun t h1 h2=>?_⟩
 rcases Nat.lt_succ_iff_lt_or_eq.1 h2 with h3|rfl
 ·exact h.none t h1 h3
 ·rw[hj];intro e;exact hc (by simpa using e)
theorem Cutting.out{s:B}{o:List B}{fr:Nat}(h:Cutting s o fr s.length):cut s=o++[s.drop fr]:=by
 rw[h.done];have:=h.plain;rw[List.take_length]at this;rw[Z8i _ this]
theorem Zlm(w:World)(s:B)(hs:s.length≤999999) :
  Calls Tryz.prog 156 #[S s,.int .u8 47] w fun e w'=>∃g cap,e=.returned (.slice (some ⟨g,0,none⟩) (cut s).length cap)∧w'.ownsRow w.heap.size 9 1 (.slice (some ⟨g,0,none⟩) (cut s).length cap) (cut s).length ((cut s).map S)∧Ext w w':=by
 go_enter Tryz.func156,Tryz.ntmps156
 go_wp2_with fail;go_loopw [5,6,7] (fun v f i wr=>∃(o:List B)(fr j:Nat),i=.int .i64 j∧f=.int .i64 fr∧Hid (Cutting s o fr j)∧Hid (Ext w wr)∧Hid (wr.ownsRow w.heap.size 9 1 v o.length (o.map S))) (fun _ _ i _=>s.length-(intOf i).toNat)
 case atStart=>exact⟨[],0,0,rfl,rfl,Q0 ⟨Nat.le_refl _,Nat.zero_le _,rfl,fun t _ h=>absurd h (Nat.not_lt_zero _)⟩,Q0 (Only.refl _ _),Q0 (World.ownsRow_nil _ _ _ _)⟩
 case round=>
  obtain⟨o,fr,j,rfl,rfl,HC,HX,HR⟩:=hrel;have hle:=HC.out.le;have hlen:=HC.out.len;by_cases hlt:j<s.length
  ·have hltz:(j:Int)<(s.length:Int):=by omega
   obtain⟨c,hc⟩:∃c,s[j]?=some c:=⟨_,Q1 hlt⟩;have hg:=Z3x hc;have HCC:=Q0 hc;clear hc;by_cases h47:c=47
   ·subst h47
    have he:=Z5s s fr j;obtain⟨x,hx⟩:∃x,x=(s.take j).drop fr:=⟨_,rfl⟩;rw[←hx]at he;have HXX:=Q0 hx;have hol:=HC.out.olen;have q1:(0:Int)≤(fr:Int):=by omega
    have q2:(fr:Int)≤(j:Int):=by omega
    have q3:(j:Int)≤(s.length:Int):=by omega
    clear hx;go_wp2_with (at_builtin;refine Z5a (.tmp 19) (.tmp 24) w.heap.size _ o x _ rfl rfl rfl rfl HR.out (by omega) HX.out.size ?_;intro g5 cap5 w5 ho5 hg5;have HX5:Hid (Ext w w5):=Q0 (HX.out.trans hg5 (fun _ _ h=>h) (fun k hk hq=>absurd hk (by omega)));have HO5:=Q0 ho5;clear ho5 hg5)
    go_roundw
    case rel=>exact⟨o++[x],j+1,j+1,by go_num,by go_num,Q0 (by rw[HXX.out];exact HC.out.hit HCC.out),HX5,Q0 (by rw[List.length_append];exact HO5.out)⟩
    case measure=>simp[intOf];omega
   ·have hz:((c.toNat:Int)==47)=false:=by
     refine Q3 fun e=>h47 ?_
     have e2:c.toNat=(47:UInt8).toNat:=by rw[show (47:UInt8).toNat=47 from rfl];omega
     exact UInt8.toNat_inj.1 e2
    go_wp2_with fail;go_roundw
    case rel=>exact⟨o,fr,j+1,by go_num,rfl,Q0 (HC.out.miss HCC.out h47),HX,HR⟩
    case measure=>simp[intOf];omega
  ·have hltz:¬((j:Int)<(s.length:Int)):=by omega
   have hj:j=s.length:=by omega
   subst hj;have he:=ba_end s fr;obtain⟨x,hx⟩:∃x,x=s.drop fr:=⟨_,rfl⟩;rw[←hx]at he;have hol:=HC.out.olen;have q1:(0:Int)≤(fr:Int):=by omega
   have q2:(fr:Int)≤(s.length:Int):=by omega
   have hcut:=HC.out.out;rw[←hx]at hcut;have HCU:=Q0 hcut;clear hx hcut;go_wp2_with (at_builtin;refine Z5a (.tmp 28) (.tmp 32) w.heap.size _ o x _ rfl rfl rfl rfl HR.out (by omega) HX.out.size ?_;intro g5 cap5 w5 ho5 hg5;have HX5:Hid (Ext w w5):=Q0 (HX.out.trans hg5 (fun _ _ h=>h) (fun k hk hq=>absurd hk (by omega)));have HO5:=Q0 ho5;clear ho5 hg5)
   go_ret;refine⟨g5,cap5,?_,?_,HX5.out⟩
   ·rw[HCU.out,List.length_append];rfl
   ·rw[HCU.out,List.length_append];exact HO5.out
theorem Zgj(n:Nat)(z:Int)(hz:z=n) :
 (Z2c n=true∧decide (97≤z)=true∧decide (z≤122)=true)∨
 (Z2c n=false∧decide (97≤z)=true∧decide (z≤122)=false∧decide (48≤z)=true∧decide (z≤57)=false∧(z==45)=false∧(z==46)=false∧(z==95)=false)∨
 (Z2c n=true∧decide (97≤z)=false∧decide (48≤z)=true∧decide (z≤57)=true)∨
 (Z2c n=true∧decide (97≤z)=false∧decide (48≤z)=true∧decide (z≤57)=false∧(z==45)=false∧(z==46)=false∧(z==95)=true)∨
 (Z2c n=false∧decide (97≤z)=false∧decide (48≤z)=true∧decide (z≤57)=false∧(z==45)=false∧(z==46)=false∧(z==95)=false)∨
 (Z2c n=true∧decide (97≤z)=false∧decide (48≤z)=false∧(z==45)=true)∨
 (Z2c n=true∧decide (97≤z)=false∧decide (48≤z)=false∧(z==45)=false∧(z==46)=true)∨
 (Z2c n=false∧decide (97≤z)=false∧decide (48≤z)=false∧(z==45)=false∧(z==46)=false∧(z==95)=false):=by
 subst hz;by_cases h0:97≤n∧n≤122
 ·refine .inl ⟨?_,decide_eq_true (by omega),decide_eq_true (by omega)⟩
  simp[Z2c];omega
 by_cases h1:97≤n
 ·refine .inr (.inl ⟨?_,decide_eq_true (by omega),decide_eq_false (by omega),decide_eq_true (by omega),decide_eq_false (by omega),Q3 (by omega),Q3 (by omega),Q3 (by omega)⟩)
  simp[Z2c];omega
 by_cases h2:48≤n∧n≤57
 ·refine .inr (.inr (.inl ⟨?_,decide_eq_false (by omega),decide_eq_true (by omega),decide_eq_true (by omega)⟩))
  simp[Z2c];omega
 by_cases h3:48≤n∧n=95
 ·refine .inr (.inr (.inr (.inl ⟨?_,decide_eq_false (by omega),decide_eq_true (by omega),decide_eq_false (by omega),Q3 (by omega),Q3 (by omega),beq_iff_eq.2 (by omega)⟩)))
  simp[Z2c];omega
 by_cases h4:48≤n
 ·refine .inr (.inr (.inr (.inr (.inl ⟨?_,decide_eq_false (by omega),decide_eq_true (by omega),decide_eq_false (by omega),Q3 (by omega),Q3 (by omega),Q3 (by omega)⟩))))
  simp[Z2c];omega
 by_cases h5:n=45
 ·refine .inr (.inr (.inr (.inr (.inr (.inl ⟨?_,decide_eq_false (by omega),decide_eq_false (by omega),beq_iff_eq.2 (by omega)⟩)))))
  simp[Z2c];omega
 by_cases h6:n=46
 ·refine .inr (.inr (.inr (.inr (.inr (.inr (.inl ⟨?_,decide_eq_false (by omega),decide_eq_false (by omega),Q3 (by omega),beq_iff_eq.2 (by omega)⟩))))))
  simp[Z2c];omega
 refine .inr (.inr (.inr (.inr (.inr (.inr (.inr (⟨?_,decide_eq_false (by omega),decide_eq_false (by omega),Q3 (by omega),Q3 (by omega),Q3 (by omega)⟩)))))))
 simp[Z2c];omega
theorem Zgb(st:Bool)(s:B)(h0:s≠[])(h1:s.length≤12)(h2:s≠[46])(h3:s≠[46,46]):Z1j st s=s.all (Z0p st):=by
 unfold Z1j;simp[h0,h1,h2,h3]
theorem isName_a(w:World)(st:Bool)(s:B)(_:decide ((s.length:Int)<1)=true):Calls Tryz.prog 225 #[S s,.bool st] w fun e w'=>e=.returned (.bool false)∧w=w':=by
 go_enter Tryz.func225,Tryz.ntmps225
 go_wp2_with fail;go_ret
 exact⟨rfl,rfl⟩
theorem isName_b(w:World)(st:Bool)(s:B)(_:decide ((s.length:Int)<1)=false)(_:decide (12<(s.length:Int))=true):Calls Tryz.prog 225 #[S s,.bool st] w fun e w'=>e=.returned (.bool false)∧w=w':=by
 go_enter Tryz.func225,Tryz.ntmps225
 go_wp2_with fail;go_ret
 exact⟨rfl,rfl⟩
theorem isName_c(w:World)(st:Bool)(s:B)(_:decide ((s.length:Int)<1)=false)(_:decide (12<(s.length:Int))=false)(_:(s==[46])=true):Calls Tryz.prog 225 #[S s,.bool st] w fun e w'=>e=.returned (.bool false)∧w=w':=by
 go_enter Tryz.func225,Tryz.ntmps225
 go_wp2_with fail;go_ret
 exact⟨rfl,rfl⟩
theorem isName_d(w:World)(st:Bool)(s:B)(_:decide ((s.length:Int)<1)=false)(_:decide (12<(s.length:Int))=false)(_:(s==[46])=false)(_:(s==[46,46])=true):Calls Tryz.prog 225 #[S s,.bool st] w fun e w'=>e=.returned (.bool false)∧w=w':=by
 go_enter Tryz.func225,Tryz.ntmps225
 go_wp2_with fail;go_ret
 exact⟨rfl,rfl⟩
theorem isName_e(w:World)(st:Bool)(s:B)(g1:decide ((s.length:Int)<1)=false)(g2:decide (12<(s.length:Int))=false)(g3:(s==[46])=false)(g4:(s==[46,46])=false):Calls Tryz.prog 225 #[S s,.bool st] w fun e w'=>e=.returned (.bool (s.all (Z0p st)))∧w=w':=by
 have hl:s.length≤12:=by have:=of_decide_eq_false g2;omega
 obtain⟨r,hr⟩:∃r,r=s.all (Z0p st):=⟨_,rfl⟩;rw[←hr];have HR:=Q0 hr;clear hr;go_enter Tryz.func225,Tryz.ntmps225;go_wp2_with fail;clear g1 g2 g3 g4;go_loop [5] (fun i=>∃j:Nat,j≤s.length∧i=.int .i64 j∧Hid (∀k x,k<j→s[k]?=some x→Z0p st x=true)) (fun i=>s.length-(intOf i).toNat)
 case atStart=>exact⟨0,Nat.zero_le _,rfl,Q0 (fun k x h=>absurd h (Nat.not_lt_zero _))⟩
 case round=>
  obtain⟨j,hj,rfl,HB⟩:=hrel;by_cases hlt:j<s.length
  ·have hltz:(j:Int)<(s.length:Int):=by omega
   obtain⟨c,hc⟩:∃c,s[j]?=some c:=⟨_,Q1 hlt⟩;have hg:=Z3x hc;have HC:=Q0 hc;clear hc;have good:Z0p st c=true→∀k x,k<j+1→s[k]?=some x→Z0p st x=true:=fun h k x hk hx=>by
    rcases Nat.lt_succ_iff_lt_or_eq.1 hk with h'|rfl
    ·exact HB.out k x h' hx
    ·rw[HC.out]at hx;cases hx;exact h
   have bad:Z0p st c=false→s.all (Z0p st)=false:=fun h=>by
    rw[Bool.eq_false_iff];intro hall;have:=List.all_eq_true.1 hall c (Q4 HC.out);rw[h]at this;cases this
   have HG:=Q0 good;have HBD:=Q0 bad;clear good bad;obtain⟨z,hz⟩:∃z:Int,z=(c.toNat:Int):=⟨_,rfl⟩;have hg2:∀hh:j<(⟨s.toArray⟩:ByteArray).size,(((⟨s.toArray⟩:ByteArray)[j]'hh).toNat:Int)=z:=fun hh=>by rw[hg hh,hz]
   have hlc:=Zgj c.toNat z hz;have HZ:=Q0 hz;clear hg hz;rcases hlc with⟨hL,k0,k1⟩|⟨hL,k0,k1,k2,k3,k4,k5,k6⟩|⟨hL,k0,k1,k2⟩|⟨hL,k0,k1,k2,k3,k4,k5⟩|⟨hL,k0,k1,k2,k3,k4,k5⟩|⟨hL,k0,k1,k2⟩|⟨hL,k0,k1,k2,k3⟩|⟨hL,k0,k1,k2,k3,k4⟩
   ·have hb:Z0p st c=true:=by unfold Z0p;rw[hL];rfl
    have HH:=Q0 (HG.out hb);clear hb hL;go_wp2_with fail;go_round
    case rel=>exact⟨j+1,by omega,by go_num,HH⟩
    case measure=>simp[intOf];omega
   ·cases st with
    | false=>
     have hb:Z0p false c=false:=by unfold Z0p;rw[hL];rfl
     have HH:=Q0 (HR.out.trans (HBD.out hb));clear hb hL;go_wp2_with fail;go_ret;exact⟨by rw[HH.out];rfl,rfl⟩
    | true=>
     by_cases hs:c=42
     ·have hb:Z0p true c=true:=by unfold Z0p;rw[hs];decide
      have HH:=Q0 (HG.out hb);have hz:(z==42)=true:=by rw[HZ.out,hs];rfl
      clear hb hL hs;go_wp2_with fail;go_round
      case rel=>exact⟨j+1,by omega,by go_num,HH⟩
      case measure=>simp[intOf];omega
     ·have hb:Z0p true c=false:=by unfold Z0p;rw[hL];simpa using hs
      have HH:=Q0 (HR.out.trans (HBD.out hb));have hz:(z==42)=false:=by
       rw[HZ.out];refine Q3 fun e=>hs ?_
       have e2:c.toNat=(42:UInt8).toNat:=by rw[show (42:UInt8).toNat=42 from rfl];omega
       exact UInt8.toNat_inj.1 e2
      clear hb hL hs;go_wp2_with fail;go_ret;exact⟨by rw[HH.out];rfl,rfl⟩
   ·have hb:Z0p st c=true:=by unfold Z0p;rw[hL];rfl
    have HH:=Q0 (HG.out hb);clear hb hL;go_wp2_with fail;go_round
    case rel=>exact⟨j+1,by omega,by go_num,HH⟩
    case measure=>simp[intOf];omega
   ·have hb:Z0p st c=true:=by unfold Z0p;rw[hL];rfl
    have HH:=Q0 (HG.out hb);clear hb hL;go_wp2_with fail;go_round
    case rel=>exact⟨j+1,by omega,by go_num,HH⟩
    case measure=>simp[intOf];omega
   ·cases st with
    | false=>
     have hb:Z0p false c=false:=by unfold Z0p;rw[hL];rfl
     have HH:=Q0 (HR.out.trans (HBD.out hb));clear hb hL;go_wp2_with fail;go_ret;exact⟨by rw[HH.out];rfl,rfl⟩
    | true=>
     by_cases hs:c=42
     ·have hb:Z0p true c=true:=by unfold Z0p;rw[hs];decide
      have HH:=Q0 (HG.out hb);have hz:(z==42)=true:=by rw[HZ.out,hs];rfl
      clear hb hL hs;go_wp2_with fail;go_round
      case rel=>exact⟨j+1,by omega,by go_num,HH⟩
      case measure=>simp[intOf];omega
     ·have hb:Z0p true c=false:=by unfold Z0p;rw[hL];simpa using hs
      have HH:=Q0 (HR.out.trans (HBD.out hb));have hz:(z==42)=false:=by
       rw[HZ.out];refine Q3 fun e=>hs ?_
       have e2:c.toNat=(42:UInt8).toNat:=by rw[show (42:UInt8).toNat=42 from rfl];omega
       exact UInt8.toNat_inj.1 e2
      clear hb hL hs;go_wp2_with fail;go_ret;exact⟨by rw[HH.out];rfl,rfl⟩
   ·have hb:Z0p st c=true:=by unfold Z0p;rw[hL];rfl
    have HH:=Q0 (HG.out hb);clear hb hL;go_wp2_with fail;go_round
    case rel=>exact⟨j+1,by omega,by go_num,HH⟩
    case measure=>simp[intOf];omega
   ·have hb:Z0p st c=true:=by unfold Z0p;rw[hL];rfl
    have HH:=Q0 (HG.out hb);clear hb hL;go_wp2_with fail;go_round
    case rel=>exact⟨j+1,by omega,by go_num,HH⟩
    case measure=>simp[intOf];omega
   ·cases st with
    | false=>
     have hb:Z0p false c=false:=by unfold Z0p;rw[hL];rfl
     have HH:=Q0 (HR.out.trans (HBD.out hb));clear hb hL;go_wp2_with fail;go_ret;exact⟨by rw[HH.out];rfl,rfl⟩
    | true=>
     by_cases hs:c=42
     ·have hb:Z0p true c=true:=by unfold Z0p;rw[hs];decide
      have HH:=Q0 (HG.out hb);have hz:(z==42)=true:=by rw[HZ.out,hs];rfl
      clear hb hL hs;go_wp2_with fail;go_round
      case rel=>exact⟨j+1,by omega,by go_num,HH⟩
      case measure=>simp[intOf];omega
     ·have hb:Z0p true c=false:=by unfold Z0p;rw[hL];simpa using hs
      have HH:=Q0 (HR.out.trans (HBD.out hb));have hz:(z==42)=false:=by
       rw[HZ.out];refine Q3 fun e=>hs ?_
       have e2:c.toNat=(42:UInt8).toNat:=by rw[show (42:UInt8).toNat=42 from rfl];omega
       exact UInt8.toNat_inj.1 e2
      clear hb hL hs;go_wp2_with fail;go_ret;exact⟨by rw[HH.out];rfl,rfl⟩
  ·have hltz:¬((j:Int)<(s.length:Int)):=by omega
   have hall:r=true:=by
    rw[HR.out];refine List.all_eq_true.2 fun x hx=>?_
    obtain⟨k,hk⟩:=List.getElem?_of_mem hx;exact HB.out k x (by have:=(Q2 hk).1;omega) hk
   subst hall;go_wp2_with fail;go_ret;exact⟨rfl,rfl⟩
theorem Zmo(w:World)(st:Bool)(s:B):Calls Tryz.prog 225 #[S s,.bool st] w fun e w'=>e=.returned (.bool (Z1j st s))∧w=w':=by
 by_cases h0:s=[]
 ·have:Z1j st s=false:=by rw[h0];rfl
  rw[this];exact isName_a w st s (by rw[h0];rfl)
 have hp:=List.length_pos_iff.2 h0;have g1:decide ((s.length:Int)<1)=false:=decide_eq_false (by omega)
 by_cases h1:s.length≤12
 ·have g2:decide (12<(s.length:Int))=false:=decide_eq_false (by omega)
  by_cases h2:s=[46]
  ·have:Z1j st s=false:=by rw[h2];simp[Z1j]
   rw[this];exact isName_c w st s g1 g2 (beq_iff_eq.2 h2)
  by_cases h3:s=[46,46]
  ·have:Z1j st s=false:=by rw[h3];simp[Z1j]
   rw[this];exact isName_d w st s g1 g2 (Q3 h2) (beq_iff_eq.2 h3)
  rw[Zgb st s h0 h1 h2 h3];exact isName_e w st s g1 g2 (Q3 h2) (Q3 h3)
 ·have:Z1j st s=false:=by unfold Z1j;simp[h1]
  rw[this];exact isName_b w st s g1 (decide_eq_true (by omega))
end Go.Proofs.YtnmhaipjfpongacGreatDoor
