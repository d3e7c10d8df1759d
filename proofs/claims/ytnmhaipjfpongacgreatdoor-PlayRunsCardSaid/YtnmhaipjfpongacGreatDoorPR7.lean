/- A part of this claim's proof;each theorem bears its own conditions. -/
import Derived.Test.YtnmhaipjfpongacGreatDoorPR6
import Derived.Laws.AppendOwnNone
import Derived.Shelf.SlIter.Nil
import Derived.Shelf.SortM.Plain
import Derived.Shelf.SortM.SortNone
set_option maxRecDepth 100000
set_option maxHeartbeats 4000000
namespace Go.Proofs.YtnmhaipjfpongacGreatDoor
open Go.ChangeShapes Go.WideShapes Go.ChangeAt Go.RowKit
structure Z0u(w:World)(b mb:Nat)(L:FL):Prop where
 cells:w.heap[b]?=some (.cells #[.map (some mb)] 173 (0,0))
 map:KMap .string S S w mb L
theorem Z0u.later{p:Nat→Prop}{w w':World}{b mb:Nat}{L:FL}(h:Z0u w b mb L)(ho:Only p w w')(h1:¬p b)(h2:¬p mb):Z0u w' b mb L:=
 ⟨ho.heapOf h.cells h1,h.map.later ho h2⟩
theorem Z0u.ext{w w':World}{b mb:Nat}{L:FL}(h:Z0u w b mb L)(ho:Ext w w'):Z0u w' b mb L:=h.later ho (fun h=>h) (fun h=>h)
theorem Z0u.ne{w:World}{b mb:Nat}{L:FL}(h:Z0u w b mb L):b≠mb:=Z2r h.cells h.map
theorem Z0u.mapCell{w:World}{b mb:Nat}{L:FL}(h:Z0u w b mb L):w.cell? ⟨b,0,none⟩=some (.map (some mb)):=(Z00 h.cells 0).trans rfl
theorem Z0u.stores{w w':World}{b mb:Nat}{L L':FL}(h:Z0u w b mb L)(ho:Only (fun i=>i=mb) w w')(hm:KMap .string S S w' mb L'):Z0u w' b mb L':=
 ⟨ho.heapOf h.cells h.ne,hm⟩
theorem Zab(w:World) :
  Calls Tryz.prog 91 #[] w fun e w'=>e=.returned (.pointer (some ⟨w.heap.size+1,0,none⟩))∧Z0u w' (w.heap.size+1) w.heap.size []∧Ext w w'∧w'.heap.size=w.heap.size+2:=by
 have hmm:=@run_makeMap Tryz.prog;go_enter Tryz.func91,Tryz.ntmps91;go_wp2;go_ret;refine⟨rfl,⟨?_,(KMap.made w .string S S).later (Only.alloc (fun _=>False) _ _) (fun h=>h)⟩,(Only.alloc _ _ _).thenAlloc _,by simp⟩
 simpa using (MapKept.heap_alloc (w.alloc (.map #[] 0)) (.cells #[.map (some w.heap.size)] 173 (0,0))).1
theorem Z7b(w:World)(b mb:Nat)(L:FL)(p:B)(h:Z0u w b mb L) :
  Calls Tryz.prog 42 #[.pointer (some ⟨b,0,none⟩),S p] w fun e w'=>e=.returned (.tuple #[S ((L.lookup p).getD []),.bool (L.lookup p).isSome])∧w=w':=by
 have c0:=h.mapCell;have hlook:=KMap.look (P:=Tryz.prog) Z08 h.map Tryz.underlying171 Tryz.underlying9 (Z79 w) p;clear h;cases hk:L.lookup p
 all_goals
  simp only[hk]at hlook;clear hk;go_enter Tryz.func42,Tryz.ntmps42;go_wp2_with fail;go_ret2;exact⟨rfl,rfl⟩
theorem Z6y(w:World)(b mb:Nat)(L:FL)(p:B)(a:Addr)(h:Z0u w b mb L)(he:w.cell? ⟨1,0,none⟩=some (errV a)) :
  Calls Tryz.prog 37 #[.pointer (some ⟨b,0,none⟩),S p] w fun e w'=>e=.returned (if (L.lookup p).isSome then .nilIface else errV a)∧Z0u w' b mb (delT L p)∧Only (fun i=>i=mb) w w':=by
 have c0:=h.mapCell;have hlook:=KMap.look (P:=Tryz.prog) Z08 h.map Tryz.underlying171 Tryz.underlying9 (Z79 w) p;cases hk:L.lookup p with
 | none=>
  simp only[hk]at hlook;have e1:delT L p=L:=Z19 hk;rw[e1];have H:=Q0 h;clear hk h e1;go_enter Tryz.func37,Tryz.ntmps37;go_wp2_with fail;go_ret;exact⟨rfl,H.out,Only.refl _ _⟩
 | some x=>
  simp only[hk]at hlook;obtain⟨w1,hrun,hm1,ho1,_⟩:=KMap.drop (P:=Tryz.prog) Z08 h.map Tryz.underlying171 Tryz.underlying9 p 0;have H:=Q0 h;clear hk h;go_enter Tryz.func37,Tryz.ntmps37;go_wp2_with fail;go_ret;exact⟨rfl,H.out.stores ho1 hm1,ho1⟩
theorem Zia(p s:B):p.isPrefixOf s=(decide (p.length≤s.length)&&(s.take p.length==p)):=by
 rw[Bool.eq_iff_iff,List.isPrefixOf_iff_prefix,List.prefix_iff_eq_take];constructor
 ·intro h
  have:=congrArg List.length h
  rw[List.length_take]at this;simp[←h];omega
 ·intro h
  simp at h
  exact h.2.symm
theorem above_eq(a b:B):Z38 a b=(decide (a.length<b.length)&&((b.take a.length==a)&&(b[a.length]?==some 47))):=by
 unfold Z38;rw[Bool.eq_iff_iff,List.isPrefixOf_iff_prefix];constructor
 ·rintro⟨r,rfl⟩
  simp
 ·intro h
  simp only[Bool.and_eq_true,decide_eq_true_eq,beq_iff_eq]at h;refine⟨b.drop (a.length+1),?_⟩;have h1:=List.drop_eq_getElem_cons (l:=b) h.1;have h2:=List.take_append_drop a.length b;have h3:=(Q2 h.2.2).2;rw[h1,h3,h.2.1]at h2;rw[List.append_assoc];exact h2
theorem Zc3(w:World)(s p:B):Calls Tryz.prog 179 #[S s,S p] w fun e w'=>e=.returned (.bool (p.isPrefixOf s))∧w=w':=by
 rw[Zia];cases h1:decide (p.length≤s.length)with
 | false=>
  have hz:decide ((p.length:Int)≤(s.length:Int))=false:=decide_eq_false (by have:=of_decide_eq_false h1;omega)
  have hz1:¬((p.length:Int)≤(s.length:Int)):=of_decide_eq_false hz;clear h1;go_enter Tryz.func179,Tryz.ntmps179;go_wp2_with fail;go_ret;exact⟨rfl,rfl⟩
 | true=>
  have hz:decide ((p.length:Int)≤(s.length:Int))=true:=decide_eq_true (by have:=of_decide_eq_true h1;omega)
  have hz1:(p.length:Int)≤(s.length:Int):=of_decide_eq_true hz;have hm:=Z5s s 0 p.length;rw[List.drop_zero]at hm;cases h2:(s.take p.length==p)
  all_goals
   clear h1;go_enter Tryz.func179,Tryz.ntmps179;go_wp2_with fail;go_ret;exact⟨rfl,rfl⟩
theorem Z87(w:World)(s p:B):Calls Tryz.prog 113 #[S s,S p] w fun e w'=>e=.returned (.bool (p.isPrefixOf s))∧w=w':=by
 have H:=Q0 (Zc3 w s p);generalize p.isPrefixOf s=r at H;go_enter Tryz.func113,Tryz.ntmps113;go_wp2_with (go_at_call 179;refine H.out.mono ?_;rintro e w1 ⟨rfl,rfl⟩);go_ret;exact⟨rfl,rfl⟩
theorem Z1t(w:World)(a b:B):Calls Tryz.prog 105 #[S a,S b] w fun e w'=>e=.returned (.bool (Z38 a b))∧w=w':=by
 rw[above_eq];cases h1:decide (a.length<b.length)with
 | false=>
  have hz:decide ((a.length:Int)<(b.length:Int))=false:=decide_eq_false (by have:=of_decide_eq_false h1;omega)
  have hz1:¬((a.length:Int)<(b.length:Int)):=of_decide_eq_false hz;clear h1;go_enter Tryz.func105,Tryz.ntmps105;go_wp2_with fail;go_ret;exact⟨rfl,rfl⟩
 | true=>
  have hlt:a.length<b.length:=of_decide_eq_true h1;have hz:decide ((a.length:Int)<(b.length:Int))=true:=decide_eq_true (by omega)
  have hz2:(a.length:Int)≤(b.length:Int):=by omega
  have hz3:(a.length:Int)<(b.length:Int):=by omega
  obtain⟨c,hc⟩:∃c,b[a.length]?=some c:=⟨_,Q1 hlt⟩;have hg:=Z3x hc;have hm:=Z5s b 0 a.length;rw[List.drop_zero]at hm;rw[hc];clear hc h1;cases h2:(b.take a.length==a)with
  | false=>
   go_enter Tryz.func105,Tryz.ntmps105
   go_wp2_with fail;go_ret
   exact⟨rfl,rfl⟩
  | true=>
   have hcc:((c.toNat:Int)==47)=(some c==some 47):=by
    rw[Bool.eq_iff_iff];simp only[beq_iff_eq,Option.some.injEq];constructor
    ·intro h
     have h1:c.toNat=47:=by omega
     exact UInt8.toNat_inj.1 (h1.trans (by decide))
    ·intro h
     rw[h];rfl
   cases h3:(some c==some (47:UInt8))
   all_goals
    rw[h3]at hcc;clear h3;go_enter Tryz.func105,Tryz.ntmps105;go_wp2_with fail;go_ret;exact⟨rfl,rfl⟩
open Go.MapKept (Stamped)
open Go.ChangeMaps (setBlock)
def errC(P:Nat→Addr)(c:Nat):Value:=if c=0 then .nilIface else errV (P (c-1))
def keyB:Value→B
 | .string s=>s.data.toList
 | _=>[]
def near(p s:B):Bool:=Z38 p s || Z38 s p
theorem Zkw{es:Array MapEntry}{L:FL}{p:B}(hp:(es.toList.map fun e=>(e.key,e.val)).Perm (L.map fun q=>(S q.1,S q.2))):(es.toList.any fun e=>near p (keyB e.key))=clash L p:=by
 have h1:(es.toList.map fun e=>keyB e.key).Perm (L.map (·.1)):=by
  have h1:=hp.map (fun q:Value×Value=>keyB q.1)
  rw[List.map_map,List.map_map]at h1;have e2:((fun q:Value×Value=>keyB q.1) ∘ fun p:B×B=>(S p.1,S p.2))=(·.1):=by
   funext q
   simp[keyB]
  rw[e2]at h1;exact h1
 have e1:(es.toList.any fun e=>near p (keyB e.key))=(es.toList.map fun e=>keyB e.key).any (near p):=by rw[List.any_map];rfl
 have e2:clash L p=(L.map (·.1)).any (near p):=by rw[List.any_map];rfl
 rw[e1,e2,Bool.eq_iff_iff,List.any_eq_true,List.any_eq_true];constructor
 ·rintro⟨x,hx,h⟩;exact⟨x,h1.mem_iff.1 hx,h⟩
 ·rintro⟨x,hx,h⟩;exact⟨x,h1.mem_iff.2 hx,h⟩
theorem Ziw{es:Array MapEntry}{L:FL}(hp:(es.toList.map fun e=>(e.key,e.val)).Perm (L.map fun q=>(S q.1,S q.2))){e:MapEntry}(he:e∈es.toList):∃q∈L,e.key=S q.1∧e.val=S q.2:=by
 have:=hp.mem_iff.1 (List.mem_map.2 ⟨e,he,rfl⟩)
 obtain⟨q,hq,e1⟩:=List.mem_map.1 this;exact⟨q,hq,(Prod.mk.inj e1).1.symm,(Prod.mk.inj e1).2.symm⟩
theorem Zky(a:B):((⟨a.toArray⟩:ByteArray)++⟨#[47]⟩)=⟨(a++[47]).toArray⟩:=by
 rw[show (⟨#[47]⟩:ByteArray)=⟨([47]:B).toArray⟩ from rfl]
 exact Z1e a [47]
theorem Zor{P:Program}{w0 w:World}(hx:Ext w0 w){ty:TypeId}{r bm clock:Nat}(hr0:w0.heap.size≤r){seen:Array Nat}{es:Array MapEntry}(hr:w.heap[r]?=some (.mapIter (some bm) clock seen clock))(hb:w.heap[bm]?=some (.map es clock))(hbr:bm≠r)(hst:Stamped es clock) :
  ((leftOf es seen).size=0∧(Instr.next (.pointer (some ⟨r,0,none⟩)) false ty).run P w=.ok (.tuple #[.bool false]) w)∨
  ∃e∈(leftOf es seen).toList,∃w1:World,Ext w0 w1∧w1.heap[r]?=some (.mapIter (some bm) clock (seen.push e.born) clock)∧w1.heap[bm]?=some (.map es clock)∧
   (Instr.next (.pointer (some ⟨r,0,none⟩)) false ty).run P w=.ok (.tuple #[.bool true,e.key,e.val]) w1∧(Instr.entry (.pointer (some ⟨r,0,none⟩))).run P w1=.ok (.tuple #[e.key,e.val]) w1:=by
 rcases run_next_at (P:=P) w ty r bm clock clock seen es clock hr hb hst.1 (Nat.le_refl _)with h|⟨e,he,w1,hw,hrun⟩
 ·exact .inl h
 ·have hx1:Ext w0 w1:=by rcases hw with rfl|rfl;exact hx;exact hx.thenDrew
  have hh1:w1.heap=w.heap:=by rcases hw with rfl|rfl <;> rfl
  have hlr:r<w1.heap.size:=by rw[hh1];exact Z03 hr
  have hr1:(setBlock w1 r (.mapIter (some bm) clock (seen.push e.born) clock)).heap[r]?=some (.mapIter (some bm) clock (seen.push e.born) clock):=by
   simp[setBlock,hlr]
  have hb1:(setBlock w1 r (.mapIter (some bm) clock (seen.push e.born) clock)).heap[bm]?=some (.map es clock):=by
   have:w1.heap[bm]?=some (.map es clock):=by rw[hh1];exact hb
   simp only[setBlock];rw[Array.getElem?_setIfInBounds_ne (Ne.symm hbr)];exact this
  refine .inr ⟨e,he,_,?_,hr1,hb1,hrun,run_entry_at _ r bm clock seen es clock e hr1 hb1 (mem_left he).1 hst.2.1⟩;exact hx1.trans (Z0l w1 r _) (fun _ _ h=>h) (fun i hi h=>absurd h (by omega))
theorem Z0b{w:World}{r:Nat}{a:Option Nat}{b c:Nat}{s:Array Nat}(h:w.heap[r]?=some (.mapIter a b s c)):w.iterSeen r=s:=by
 unfold World.iterSeen;rw[h]
def Z7m(w:World)(P:Nat→Addr)(b mb:Nat)(L:FL)(p x:B)(e:Ending)(w':World):Prop:=
 e=.returned (errC P (Z06 L p x))∧Z0u w' b mb (putT L p x)∧Only (fun i=>i=mb) w w'
theorem Z7m.fails{w w':World}{P:Nat→Addr}{b mb:Nat}{L:FL}{p x:B}{c:Nat}(h:Z0u w b mb L)(hc:Z06 L p x=c)(h0:c≠0)(ho:Ext w w'):Z7m w P b mb L p x (.returned (errV (P (c-1)))) w':=by
 refine⟨by rw[hc];unfold errC;rw[if_neg h0],?_,Only.of_ext ho⟩
 have:putT L p x=L:=by unfold putT;rw[hc,if_neg h0]
 rw[this];exact h.ext ho
theorem put_bad(w:World)(P:Nat→Addr)(b mb:Nat)(L:FL)(p x:B)(h:Z0u w b mb L)(hs:Errs w P [1,3,6,7])(hm:Z1m w)(hp:p.length≤999999)(hk:Z0y p=false) :
  Calls Tryz.prog 38 #[.pointer (some ⟨b,0,none⟩),S p,S x] w (Z7m w P b mb L p x):=by
 have HC:=Z8j w p (P 3) (by omega) hm (hs.var 3 _ (by decide) rfl)
 rw[hk,if_neg (by decide)]at HC
 have HC:=Q0 HC;have hcode:Z06 L p x=4:=by unfold Z06;rw[hk,if_neg (by decide)]
 have HK:=Q0 hcode;have H:=Q0 h;clear h hs hm hp hk hcode;go_enter Tryz.func38,Tryz.ntmps38;go_wp2_with (go_at_call 112;refine HC.out.mono ?_;rintro e w1 ⟨rfl,ho⟩);go_ret;exact Z7m.fails H.out HK.out (by decide) ho
theorem put_long(w:World)(P:Nat→Addr)(b mb:Nat)(L:FL)(p x:B)(h:Z0u w b mb L)(hs:Errs w P [1,3,6,7])(hm:Z1m w)(hp:p.length≤999999)(hk:Z0y p=true)(hx:2000<x.length) :
  Calls Tryz.prog 38 #[.pointer (some ⟨b,0,none⟩),S p,S x] w (Z7m w P b mb L p x):=by
 have HC:=Z8j w p (P 3) (by omega) hm (hs.var 3 _ (by decide) rfl)
 rw[hk,if_pos rfl]at HC;have HC:=Q0 HC;have hcode:Z06 L p x=2:=by unfold Z06;rw[hk,if_pos rfl,if_pos hx]
 have HK:=Q0 hcode;have H:=Q0 h;have HE:=Q0 (hs.var 1 _ (by decide) rfl)
 have hz:(2000:Int)<(x.length:Int):=by omega
 clear h hs hm hp hk hcode hx;go_enter Tryz.func38,Tryz.ntmps38;go_wp2_with fail;refine HC.out.mono ?_;rintro e w1 ⟨rfl,ho⟩;have hE:=ho.cellOf HE.out (fun h=>h)
 have HO:=Q0 ho;clear ho;go_wp2_with fail;go_ret;exact Z7m.fails H.out HK.out (by decide) HO.out
end Go.Proofs.YtnmhaipjfpongacGreatDoor
namespace Go.Proofs.YtnmhaipjfpongacGreatDoor
open Go.ChangeShapes Go.WideShapes Go.ChangeAt Go.RowKit
abbrev encF(p:B×B):List Value:=[S p.1,S p.2]
theorem Z1k(p:B×B):(encF p).length=2:=rfl
theorem Z2i(p:B×B):∀u∈encF p,u.oneCell'=true:=by
 intro u hu
 rcases List.mem_cons.1 hu with rfl|hu
 ·rfl
 ·rcases List.mem_cons.1 hu with rfl|hu
  ·rfl
  ·cases hu
theorem Z2h:(Tryz.prog.info? 65).map (fun i=>(i.zero,i.size,i.bytes))=some (some (.agg #[.string ⟨#[]⟩,.string ⟨#[]⟩]),2,32):=by kernel_rfl
def fndT(L:List (B×B))(k:B):Int:=match L.findIdx? (fun p=>p.1==k)with|some i=>(i:Int)|none=>-1
theorem fndT_hit{L:List (B×B)}{k:B}{j:Nat}{p:B×B}(hp:L[j]?=some p)(hk:p.1=k)(hb:∀i (q:B×B),i<j→L[i]?=some q→q.1≠k):fndT L k=(j:Int):=by
 have hj:=(Q2 hp).1;have:L.findIdx? (fun p=>p.1==k)=some j:=by
  rw[List.findIdx?_eq_some_iff_getElem];refine⟨hj,?_,fun i hi=>?_⟩
  ·have:=(Q2 hp).2
   rw[this,hk];simp
  ·have:=hb i L[i] hi (Q1 (by omega))
   simpa using this
 unfold fndT;rw[this]
theorem Zpe{L:List (B×B)}{k:B}(hb:∀(i:Nat)(q:B×B),L[i]?=some q→q.1≠k):fndT L k=-1:=by
 have:L.findIdx? (fun p=>p.1==k)=none:=by
  rw[List.findIdx?_eq_none_iff];intro q hq;obtain⟨i,hi⟩:=List.getElem?_of_mem hq;have:=hb i q hi;simpa using this
 unfold fndT;rw[this]
theorem Z3m{L:List (B×B)}{k:B}:(fndT L k=-1∧L.lookup k=none)∨∃(j:Nat)(x:B),fndT L k=(j:Int)∧L[j]?=some (k,x)∧L.lookup k=some x:=by
 induction L with
 | nil=>exact .inl ⟨rfl,rfl⟩
 | cons p L ih=>
  obtain⟨k',x⟩:=p;by_cases h:k'=k
  ·subst h
   exact .inr ⟨0,x,by simp[fndT,List.findIdx?_cons],rfl,by simp⟩
  ·have h':¬k=k':=fun e=>h e.symm
   have hl:((k',x) :: L).lookup k=L.lookup k:=by simp[List.lookup,Q3 h']
   rw[hl];have hf:((k',x) :: L).findIdx? (fun p=>p.1==k)=(L.findIdx? (fun p=>p.1==k)).map (· + 1):=by simp[List.findIdx?_cons,h]
   rcases ih with⟨h1,h2⟩|⟨j,y,h1,h2,h3⟩
   ·refine .inl ⟨?_,h2⟩
    unfold fndT at h1 ⊢;rw[hf];cases hq:L.findIdx? (fun p=>p.1==k)with
    | none=>rfl
    | some i=>rw[hq]at h1;simp at h1 <;> omega
   ·refine .inr ⟨j+1,y,?_,by simpa using h2,h3⟩
    unfold fndT at h1 ⊢;rw[hf];cases hq:L.findIdx? (fun p=>p.1==k)with
    | none=>rw[hq]at h1;simp at h1 <;> omega
    | some i=>rw[hq]at h1;simp at h1 ⊢;omega
theorem Z4a(w:World)(m:Nat)(slv:Value)(L:List (B×B))(k:B)(hm:w.heap[m]?=some (.cells #[slv] 147 (0,0)))(hr:RdS 2 encF w slv L)(hl:L.length≤1000000) :
  Calls Tryz.prog 98 #[.pointer (some ⟨m,0,none⟩),S k] w fun e w'=>e=.returned (I (fndT L k))∧w=w':=by
 obtain⟨a,cap,rfl,_,_,hc⟩:=hr;have c1:w.cell? ⟨m,0,none⟩=some (.slice a L.length cap):=(Z00 hm 0).trans rfl;obtain⟨r,hR⟩:∃r,Hid (r=fndT L k):=⟨_,Q0 rfl⟩;rw[←hR.out];have HC:=Q0 hc;clear hc hm;go_enter Tryz.func98,Tryz.ntmps98;go_wp2_with fail;go_loop [5] (fun i=>∃j:Nat,j≤L.length∧i=.int .i64 j∧Hid (∀i q,i<j→L[i]?=some q→q.1≠k)) (fun i=>L.length-(intOf i).toNat)
 case atStart=>exact⟨0,Nat.zero_le _,rfl,Q0 (fun i q h=>absurd h (Nat.not_lt_zero _))⟩
 case round=>
  obtain⟨j,hj,rfl,hb⟩:=hrel;by_cases hlt:j<L.length
  ·have hltz:(j:Int)<(L.length:Int):=by omega
   obtain⟨b,off,rfl,hcell⟩:=HC.out (by intro h;rw[h]at hlt;simp at hlt)
   obtain⟨⟨k',x⟩,hp⟩:∃y,L[j]?=some y:=⟨_,Q1 hlt⟩;have d0:w.cell? ⟨b,off+j*2,none⟩=some (S k'):=hcell j _ hp 0 _ rfl;have HP:=Q0 hp;clear hcell hp;by_cases hk:k'=k
   ·have HK:=Q0 hk
    rw[hk]at d0;clear hk;go_wp2_with fail;go_ret;exact⟨(by rw[hR.out,fndT_hit HP.out HK.out hb.out];rfl),rfl⟩
   ·have hkf:(k'==k)=false:=Q3 hk
    have HK:=Q0 hk;clear hk;go_wp2_with fail;go_round
    case rel=>exact⟨j+1,by omega,by go_num,Q0 (fun i q hi hq=>by
     rcases Nat.lt_succ_iff_lt_or_eq.1 hi with h|rfl
     ·exact hb.out i q h hq
     ·rw[HP.out]at hq;cases hq;exact HK.out)⟩
    case measure=>simp[intOf];omega
  ·have hltz:¬((j:Int)<(L.length:Int)):=by omega
   go_wp2_with fail;go_ret
   exact⟨(by rw[hR.out,Zpe (fun i q hq=>hb.out i q (by have:=(Q2 hq).1;omega) hq)];rfl),rfl⟩
theorem Z1n{P:Program}{α:Type}(enc:α→List Value)(t e:TypeId)(n by_:Nat)(z:Value)(hinfo:(P.info? e).map (fun i=>(i.zero,i.size,i.bytes))=some (some z,n,by_))(ht:P.underlying t=some (.slice e))(hzs:z.cells.size=n)(hn0:0<n)
  (hlen:∀x,(enc x).length=n) (h1c:∀x,∀u∈enc x,u.oneCell'=true) (hby:by_≤1000)
  {ops:Array Oper} {rest:List Oper} {o:Oper} {a:Act} {Q:Exit→Act→World→Prop} (s x:Operand) (base:Nat) (v:Value) (l k:List α) (W:World) (hgd:o.guard=none)
  (ho:o.op=.call { callee:=.builtin .append,args:=#[s,x],argTypes:=#[t,t] }) (hs:a.eval s=v) (ao:Option Addr) (m c:Nat) (hx:a.eval x=.slice ao m c) (hmk:m=k.length)
  (hsrc:(ao=none∧k=[]∧c=0)∨∃ad,ao=some ad∧∀j u,(k.flatMap enc)[j]?=some u→W.cell? (ad.add j)=some u)
  (hrow:W.ownsRow base e n v l.length (l.flatMap enc)) (hl:l.length+k.length≤1000000) (hbase:base≤W.heap.size)
  (hK:∀ao' m' cap w',m'=(l++k).length→w'.ownsRow base e n (.slice ao' m' cap) (l++k).length ((l++k).flatMap enc)→W.grownBy w' v.ownBlock→(∀i,Value.ownBlock (.slice ao' m' cap)=some i→v.ownBlock=some i∨W.heap.size≤i)→
   wpList P ops Q rest (a.put o.dst (.slice ao' m' cap)) w') :
  wpList P ops Q (o :: rest) a W:=by
 subst hmk;obtain⟨i0,hi,hz0,hz1,hz2⟩:=info_parts hinfo;have hb:(l.length+k.length)*by_≤1000001*1000:=Nat.mul_le_mul (by omega) hby
 have hform:∀{W':World} {v':Value} {n':Nat} {xs:List Value},W'.ownsRow base e n v' n' xs→∃ao' cap,v'=.slice ao' n' cap:=fun h=>by
  rcases h.2 with⟨rfl,rfl⟩|⟨g,cap,_,rfl,_⟩
  ·exact⟨none,0,rfl⟩
  ·exact⟨_,cap,rfl⟩
 rcases hsrc with⟨rfl,rfl,rfl⟩|⟨ad,rfl,hcells⟩
 ·refine wpList_append_own_none hgd s x t ho base e i0 n ht hi v l.length (l.flatMap enc) hs hrow hx ?_
  obtain⟨ao',cap,hv⟩:=hform hrow;have hgr:W.grownBy W v.ownBlock:=Only.grown (Only.refl _ W);rw[hv]at hrow hgr ⊢;have e1:l++[]=l:=List.append_nil l;have:=hK ao' _ cap W rfl;rw[e1]at this;rw[hv]at this;exact this hrow hgr (fun i h=>.inl h)
 ·refine wpList_plain hgd fun K hK'=>?_
  have h1:∀u∈k.flatMap enc,u.oneCell'=true:=fun u hu=>by
   obtain⟨y,_,hy⟩:=List.mem_flatMap.1 hu;exact h1c y u hy
  obtain⟨v',w',hr,h2,h3,_,h5⟩:=run_append_own_at (P:=P) W base t o.type e i0 z n by_ ht hi hz0 hz1 hz2 hzs hn0 v l.length (l.flatMap enc) hrow ad k.length c (k.flatMap enc) (Z8b hlen k) hcells h1 (by unfold maxLen;omega) (by omega) hbase
  obtain⟨ao',cap,rfl⟩:=hform h2;unfold Oper.wp execOp;simp only[ho,resolve,invoke,builtin,Sem.run_bind,Sem.run_pure,Result.andThen_ok,List.map_toArray,List.map_cons,List.map_nil,hs,hx,hr];have e1:(l++k).length=l.length+k.length:=List.length_append;have:=hK ao' _ cap w' rfl;rw[e1,List.flatMap_append]at this;refine hK' _ _ (this h2 h3 fun i hi'=>?_)
  rcases h5 with h5|h5
  ·exact .inl (h5 ▸ hi')
  ·right
   rw[h5]at hi';have:=Option.some.inj hi';omega
structure Z20(w:World)(base m:Nat)(slv:Value)(L:FL):Prop where
 cells:w.heap[m]?=some (.cells #[slv] 147 (0,0))
 row:w.ownsRow base 65 2 slv L.length (L.flatMap encF)
theorem Z20.rd{w:World}{base m:Nat}{slv:Value}{L:FL}(h:Z20 w base m slv L):RdS 2 encF w slv L:=RdS.of_row Z1k h.row
theorem Z20.ne{w:World}{base m:Nat}{slv:Value}{L:FL}(h:Z20 w base m slv L):∀i,slv.ownBlock=some i→i≠m:=Zam h.row h.cells (by decide)
theorem Z20.later{p:Nat→Prop}{w w':World}{base m:Nat}{slv:Value}{L:FL}(h:Z20 w base m slv L)(ho:Only p w w')(h1:¬p m)(h2:∀i,slv.ownBlock=some i→¬p i):Z20 w' base m slv L:=
 ⟨ho.heapOf h.cells h1,ho.row h.row h2⟩
theorem Z20.ext{w w':World}{base m:Nat}{slv:Value}{L:FL}(h:Z20 w base m slv L)(ho:Ext w w'):Z20 w' base m slv L:=h.later ho (fun h=>h) (fun _ _ h=>h)
def InR(m:Nat)(slv:Value)(i:Nat):Prop:=i=m∨slv.ownBlock=some i
def Z36(w:World)(base m:Nat)(slv:Value)(L:FL)(r:Value)(e:Ending)(w':World):Prop:=
 ∃slv',e=.returned r∧Z20 w' base m slv' L∧Only (InR m slv) w w'∧∀i,slv'.ownBlock=some i→slv.ownBlock=some i∨w.heap.size≤i
theorem Z36.same{w w':World}{base m:Nat}{slv:Value}{L:FL}{r:Value}(h:Z20 w base m slv L)(ho:Ext w w'):Z36 w base m slv L r (.returned r) w':=
 ⟨slv,rfl,h.ext ho,Only.of_ext ho,fun _ h=>.inl h⟩
theorem Z36.laid{w w3:World}{base m:Nat}{slv v:Value}{L T:FL}{r:Value}(h:Z20 w base m slv L)(hx:Ext w w3)(hr:w3.ownsRow base 65 2 v T.length (T.flatMap encF))(hn:∀i,v.ownBlock=some i→w.heap.size≤i) :
  Z36 w base m slv T r (.returned r) (w3.setCell ⟨m,0,none⟩ v):=by
 have hm3:=hx.heapOf h.cells (fun h=>h)
 have hs:=Only.set (p:=fun i=>i=m) (w:=w3) (a:=⟨m,0,none⟩) v rfl
 have hlt:=Z03 h.cells;refine⟨v,rfl,⟨(Z01 hm3 0 v).trans (by simp),hs.row hr (fun i e e1=>by have:=hn i e;omega)⟩,?_,fun i e=>.inr (hn i e)⟩
 exact Only.after hx (hs.mono fun i _ e=>.inl e)
theorem del_at{L:FL}{p x:B}{j:Nat}(hn:(L.map (·.1)).Nodup)(h:L[j]?=some (p,x)):delT L p=L.take j++L.drop (j+1):=by
 have hj:=(Q2 h).1;have he:=(Q2 h).2;have hs:L=L.take j++(p,x) :: L.drop (j+1):=by
  have h1:=List.drop_eq_getElem_cons hj;rw[he]at h1;rw[←h1,List.take_append_drop]
 generalize L.take j=A at hs ⊢;generalize L.drop (j+1)=C at hs ⊢;subst hs;rw[List.map_append,List.map_cons,List.nodup_append]at hn;obtain⟨_,h2,h3⟩:=hn;have h2':=(List.nodup_cons.1 h2).1;unfold delT;rw[List.filter_append,List.filter_cons_of_neg (by simp)]
 have e1:A.filter (fun q=>!(q.1==p))=A:=List.filter_eq_self.2 fun q hq=>by
  have:q.1≠p:=fun e=>h3 q.1 (List.mem_map.2 ⟨q,hq,rfl⟩) p (.head _) e
  simpa using this
 have e2:C.filter (fun q=>!(q.1==p))=C:=List.filter_eq_self.2 fun q hq=>by
  have:q.1≠p:=fun e=>h2' (e ▸ List.mem_map.2 ⟨q,hq,rfl⟩)
  simpa using this
 rw[e1,e2]
theorem Zdu{w w':World}{L:FL}{b off:Nat}(hc:∀i x,L[i]?=some x→∀j u,(encF x)[j]?=some u→w.cell? ⟨b,off+i*2+j,none⟩=some u)(hx:Ext w w')(k n:Nat) :
  ∀j u,(((L.drop k).take n).flatMap encF)[j]?=some u→w'.cell? ((⟨b,off+k*2,none⟩:Addr).add j)=some u:=by
 intro j u hu
 have hlt:=(Q2 hu).1;rw[Z8b Z1k]at hlt;have hi:j / 2<((L.drop k).take n).length:=by omega
 obtain⟨y,hy⟩:∃y,((L.drop k).take n)[j / 2]?=some y:=⟨_,Q1 hi⟩;have hLy:L[k+j / 2]?=some y:=by
  rw[List.length_take]at hi;rw[List.getElem?_take_of_lt (by omega),List.getElem?_drop]at hy
  exact hy
 have h2:j % 2<(encF y).length:=Nat.mod_lt _ (by decide)
 have hu2:=Zeb Z1k _ _ y hy (j % 2) _ (Q1 h2);rw[show j / 2*2+j % 2=j by omega]at hu2
 rw[hu2]at hu;cases hu;have:=hx.cellOf (hc _ y hLy (j % 2) _ (Q1 h2)) (fun h=>h)
 rw[show off+(k+j / 2)*2+j % 2=off+k*2+j by omega]at this
 have hadd:(⟨b,off+k*2,none⟩:Addr).add j=⟨b,off+k*2+j,none⟩:=by
  unfold Addr.add;split
  ·subst_vars;rfl
  ·rfl
 rw[hadd];exact this
theorem Zdh{w w':World}{L:FL}{b off:Nat}(hc:∀i x,L[i]?=some x→∀j u,(encF x)[j]?=some u→w.cell? ⟨b,off+i*2+j,none⟩=some u)(hx:Ext w w')(k:Nat) :
  ∀j u,((L.take k).flatMap encF)[j]?=some u→w'.cell? ((⟨b,off,none⟩:Addr).add j)=some u:=by
 have:=Zdu hc hx 0 k
 rw[List.drop_zero,Nat.zero_mul,Nat.add_zero]at this;exact this
theorem Zeq{w w':World}{L:FL}{b off:Nat}(hc:∀i x,L[i]?=some x→∀j u,(encF x)[j]?=some u→w.cell? ⟨b,off+i*2+j,none⟩=some u)(hx:Ext w w')(k:Nat) :
  ∀j u,((L.drop k).flatMap encF)[j]?=some u→w'.cell? ((⟨b,off+k*2,none⟩:Addr).add j)=some u:=by
 have:=Zdu hc hx k L.length
 rw[List.take_of_length_le (by rw[List.length_drop];omega)]at this
 exact this
theorem none_src{w':World}{L:FL}{b off k:Nat}(h:L.length≤k) :
  ∀j u,((L.drop k).flatMap encF)[j]?=some u→w'.cell? ((⟨b,off,none⟩:Addr).add j)=some u:=by
 intro j u hu
 rw[List.drop_of_length_le h]at hu;simp at hu
theorem Zjc{w w':World}{L:FL}{b off cap k c:Nat}(hc:∀i x,L[i]?=some x→∀j u,(encF x)[j]?=some u→w.cell? ⟨b,off+i*2+j,none⟩=some u)(hx:Ext w w')(hcap:L.length≤cap){ao:Option Addr}
  (h:(if cap=k then some (⟨b,off,none⟩:Addr)else some ⟨b,off+k*2,none⟩)=ao) :
  (ao=none∧L.drop k=[]∧c=0)∨∃ad,ao=some ad∧∀j u,((L.drop k).flatMap encF)[j]?=some u→w'.cell? (ad.add j)=some u:=by
 by_cases hk:cap=k
 ·rw[if_pos hk]at h
  exact .inr ⟨_,h.symm,none_src (by omega)⟩
 ·rw[if_neg hk]at h
  exact .inr ⟨_,h.symm,Zeq hc hx k⟩
theorem Zap(w:World)(base m:Nat)(slv:Value)(L:FL)(p:B)(h:Z20 w base m slv L)(hn:(L.map (·.1)).Nodup)(hl:L.length≤1000)(hb:base≤w.heap.size) :
  Calls Tryz.prog 71 #[.pointer (some ⟨m,0,none⟩),S p] w (Z36 w base m slv (delT L p) (I (if (L.lookup p).isSome then 0 else 6))):=by
 have hfind:=Z4a w m slv L p h.cells h.rd (by omega)
 rcases Z3m (L:=L) (k:=p)with⟨h1,h2⟩|⟨j,x,h1,h2,h3⟩
 ·have e1:delT L p=L:=Z19 h2
  rw[e1,h2];rw[h1]at hfind;have HF:=Q0 hfind;have H:=Q0 h;clear hfind h1 h2 e1 h hn;go_enter Tryz.func71,Tryz.ntmps71;go_wp2_with (go_at_call 98;refine HF.out.mono ?_;rintro e w1 ⟨rfl,rfl⟩);go_ret;exact Z36.same H.out (Only.refl _ _)
 ·rw[h3]
  rw[h1]at hfind;have hT:=del_at hn h2;obtain⟨T,HT⟩:∃T,Hid (T=delT L p):=⟨_,Q0 rfl⟩;rw[←HT.out]at hT ⊢;have hjl:=(Q2 h2).1;have hj:(j:Int)<(L.length:Int):=by omega
  have hj0:¬((j:Int)<0):=by omega
  obtain⟨a,cap,rfl,hcap,_,hc⟩:=h.rd;obtain⟨b,off,rfl,hcell⟩:=hc (by rintro rfl;simp at h2)
  have c1:w.cell? ⟨m,0,none⟩=some (.slice (some ⟨b,off,none⟩) L.length cap):=(Z00 h.cells 0).trans rfl
  have HF:=Q0 hfind;have H:=Q0 h;have HCL:=Q0 hcell;have HTT:=Q0 hT;have hlt1:(L.take j).length=j:=by rw[List.length_take];omega
  have hld:(L.drop (j+1)).length=L.length-(j+1):=List.length_drop ..
  have hcz:(L.length:Int)≤(cap:Int):=by omega
  clear hfind h1 h2 h3 h hc hcell hn hT;have hjc:(j:Int)≤(cap:Int):=by omega
  have hj1:(j:Int)+1≤(L.length:Int):=by omega
  go_enter Tryz.func71,Tryz.ntmps71
  go_wp2_with (first|(go_at_call 98;refine HF.out.mono ?_;rintro e w1 ⟨rfl,rfl⟩)|(at_builtin;refine Z1n encF 22 65 2 32 _ Z2h Tryz.underlying22 rfl (by decide) Z1k Z2i (by decide) (.tmp 12) (.tmp 18) base (.slice none 0 0) [] (L.take j) w rfl rfl rfl _ _ _ rfl hlt1.symm (.inr ⟨_,rfl,Zdh HCL.out (Only.refl _ w) j⟩) (World.ownsRow_nil _ _ _ _) (by simp;omega) hb ?_;intro a1 m1 cap1 w1 hm1 hr1 hg1 ha1;have hx1:Ext w w1:=(Only.of_grown hg1).mono (fun _ _ h=>by cases h);have c2:w1.cell? ⟨m,0,none⟩=some (.slice (some ⟨b,off,none⟩) L.length cap):=hx1.cellOf c1 (fun h=>h);have HR1:=Q0 hr1;have HX1:=Q0 hx1;have HA1:=Q0 ha1;clear hr1 hg1 ha1 hm1 hx1)|(at_builtin;generalize hAO:(if cap=j+1 then some (⟨b,off,none⟩:Addr)else some ⟨b,off+(j+1)*2,none⟩)=ao;refine Z1n encF 22 65 2 32 _ Z2h Tryz.underlying22 rfl (by decide) Z1k Z2i (by decide) (.tmp 21) (.tmp 28) base (.slice a1 m1 cap1) ([]++L.take j) (L.drop (j+1)) w1 rfl rfl rfl _ _ _ rfl hld.symm (Zjc HCL.out HX1.out hcap hAO) HR1.out (by simp;omega) (Nat.le_trans hb HX1.out.size) ?_;intro a2 m2 cap2 w2 hm2 hr2 hg2 ha2;have hx2:Ext w w2:=HX1.out.trans (Only.of_grown hg2) (fun _ _ h=>h) (fun i hi h=>by rcases HA1.out i h with h|h;cases h;omega);have HR2:=Q0 hr2;have HX2:=Q0 hx2;have HA2:=Q0 ha2;have HM2:=Q0 hm2;have hf2:=Z02 (hx2.heapOf H.out.cells (fun h=>h)) 0;have c3:=(Z00 (hx2.heapOf H.out.cells (fun h=>h)) 0).trans rfl;clear hr2 hg2 ha2 hm2 hx2 hAO))
  go_ret;have hT2:[]++L.take j++L.drop (j+1)=T:=by rw[HTT.out];rfl
  have hr2:=HR2.out;rw[hT2]at hr2;exact Z36.laid H.out HX2.out hr2 fun i e=>by
   rcases HA2.out i e with h|h
   ·rcases HA1.out i h with h|h
    ·cases h
    ·exact h
   ·exact Nat.le_trans HX1.out.size h
theorem Z7l{L:FL}{p:B}(h:clash L p=false){j:Nat}{q:B×B}(hq:L[j]?=some q):Z38 p q.1=false∧Z38 q.1 p=false:=by
 have:=List.any_eq_false.1 h q (Q4 hq)
 simpa using this
theorem Zn7{L:FL}{p:B}(h:clash L p=true):¬∀i q,i<L.length→L[i]?=some q→near p q.1=false:=by
 intro hn
 obtain⟨q,hq,h1⟩:=List.any_eq_true.1 h;obtain⟨i,hi⟩:=List.getElem?_of_mem hq;have:=hn i q (Q2 hi).1 hi;unfold near at this;rw[this]at h1;cases h1
theorem putM_bad(w:World)(base m:Nat)(slv:Value)(L:FL)(p x:B)(h:Z20 w base m slv L)(hp:p.length≤999999)(hk:Z0y p=false) :
  Calls Tryz.prog 30 #[.pointer (some ⟨m,0,none⟩),S p,S x] w (Z36 w base m slv (putT L p x) (I (Z06 L p x))):=by
 have HC:=Z3e w p hp;rw[hk]at HC;have HC:=Q0 HC;have hcode:Z06 L p x=4:=by unfold Z06;rw[hk,if_neg (by decide)]
 have hT:putT L p x=L:=by unfold putT;rw[hcode,if_neg (by decide)]
 rw[hcode,hT];have H:=Q0 h;clear h hp hk hcode hT;go_enter Tryz.func30,Tryz.ntmps30;go_wp2_with (go_at_call 104;refine HC.out.mono ?_;rintro e w1 ⟨rfl,ho⟩);go_ret;exact Z36.same H.out ho
theorem Zo8(w:World)(base m:Nat)(slv:Value)(L:FL)(p x:B)(h:Z20 w base m slv L)(hp:p.length≤999999)(hk:Z0y p=true)(hx:2000<x.length) :
  Calls Tryz.prog 30 #[.pointer (some ⟨m,0,none⟩),S p,S x] w (Z36 w base m slv (putT L p x) (I (Z06 L p x))):=by
 have HC:=Z3e w p hp;rw[hk]at HC;have HC:=Q0 HC;have hcode:Z06 L p x=2:=by unfold Z06;rw[hk,if_pos rfl,if_pos hx]
 have hT:putT L p x=L:=by unfold putT;rw[hcode,if_neg (by decide)]
 rw[hcode,hT];have H:=Q0 h;have hz:(2000:Int)<(x.length:Int):=by omega
 clear h hp hk hcode hT hx;go_enter Tryz.func30,Tryz.ntmps30;go_wp2_with (go_at_call 104;refine HC.out.mono ?_;rintro e w1 ⟨rfl,ho⟩);go_ret;exact Z36.same H.out ho
theorem Zlq(w:World)(base m:Nat)(slv:Value)(L:FL)(p x:B)(h:Z20 w base m slv L)(hl:L.length≤1000)(hp:p.length≤999999)(hk:Z0y p=true)(hx:¬2000<x.length)(hc:clash L p=true) :
  Calls Tryz.prog 30 #[.pointer (some ⟨m,0,none⟩),S p,S x] w (Z36 w base m slv (putT L p x) (I (Z06 L p x))):=by
 have HC:=Z3e w p hp;rw[hk]at HC;have HC:=Q0 HC;have hcode:Z06 L p x=7:=by unfold Z06;rw[hk,if_pos rfl,if_neg hx,if_pos hc]
 have hT:putT L p x=L:=by unfold putT;rw[hcode,if_neg (by decide)]
 rw[hcode,hT];have H:=Q0 h;have HCL:=Q0 (Zn7 hc);have hz:¬(2000:Int)<(x.length:Int):=by omega
 obtain⟨a,cap,hv,_,_,hcell⟩:=h.rd;have HV:=Q0 hv;have HCE:=Q0 hcell;clear h hp hk hcode hT hx hc hcell hv;go_enter Tryz.func30,Tryz.ntmps30;go_wp2_with (go_at_call 104;refine HC.out.mono ?_;rintro e w1 ⟨rfl,ho⟩;have HO:=Q0 ho;clear ho);have c1:w1.cell? ⟨m,0,none⟩=some (.slice a L.length cap):=by
  rw[←HV.out];exact(Z00 (HO.out.heapOf H.out.cells (fun h=>h)) 0).trans rfl
 go_loop [8] (fun i=>∃j:Nat,j≤L.length∧i=.int .i64 j∧Hid (∀i q,i<j→L[i]?=some q→near p q.1=false)) (fun i=>L.length-(intOf i).toNat)
 case atStart=>exact⟨0,Nat.zero_le _,rfl,Q0 (fun i q h=>absurd h (Nat.not_lt_zero _))⟩
 case round=>
  obtain⟨j,hj,rfl,hb⟩:=hrel;by_cases hlt:j<L.length
  ·have hltz:(j:Int)<(L.length:Int):=by omega
   obtain⟨b,off,rfl,hcl⟩:=HCE.out (by intro h;rw[h]at hlt;simp at hlt)
   obtain⟨⟨k',y⟩,hq⟩:∃y,L[j]?=some y:=⟨_,Q1 hlt⟩;have d0:w1.cell? ⟨b,off+j*2,none⟩=some (S k'):=HO.out.cellOf (hcl j _ hq 0 _ rfl) (fun h=>h)
   have HQ:=Q0 hq;have HA1:=Q0 (fun W=>Z1t W p k')
   have HA2:=Q0 (fun W=>Z1t W k' p)
   have HN:=Q0 (show near p k'=(Z38 p k' || Z38 k' p) from rfl)
   clear hcl hq;generalize Z38 p k'=r1 at HA1 HN;generalize Z38 k' p=r2 at HA2 HN;cases r1
   ·cases r2
    ·go_wp2_with fail
     refine(HA1.out _).mono ?_;rintro e w2 ⟨rfl,rfl⟩;go_wp2_with fail;refine(HA2.out _).mono ?_;rintro e w2 ⟨rfl,rfl⟩;go_wp2_with fail;go_round
     case rel=>exact⟨j+1,by omega,by go_num,Q0 (fun i q hi hq=>by
      rcases Nat.lt_succ_iff_lt_or_eq.1 hi with h|rfl
      ·exact hb.out i q h hq
      ·rw[HQ.out]at hq;cases hq;exact HN.out)⟩
     case measure=>simp[intOf];omega
    ·go_wp2_with fail
     refine(HA1.out _).mono ?_;rintro e w2 ⟨rfl,rfl⟩;go_wp2_with fail;refine(HA2.out _).mono ?_;rintro e w2 ⟨rfl,rfl⟩;go_wp2_with fail;go_ret;exact Z36.same H.out HO.out
   ·go_wp2_with fail
    refine(HA1.out _).mono ?_;rintro e w2 ⟨rfl,rfl⟩;go_wp2_with fail;go_ret;exact Z36.same H.out HO.out
  ·exact absurd (fun i q hi hq=>hb.out i q (by omega) hq) HCL.out
end Go.Proofs.YtnmhaipjfpongacGreatDoor
namespace Go.Proofs
open Go.Shelf
def Tryz.keys117_ren:Go.Shelf.Ren:=⟨fun|7=>117|10=>183|n=>n,fun|23=>171|26=>9|3=>9|28=>179|0=>0|27=>178|33=>164|4=>4|n=>n,fun|n=>n⟩
theorem Tryz.keys117:Go.Proofs.SlLaysZ.n7 Tryz.prog Tryz.keys117_ren:={
 mixed:=by kernel_rfl
 f7:=⟨Tryz.f117.name,by decide,Tryz.func117.trans (congrArg some (by kernel_rfl))⟩
 f10:=⟨Tryz.f183.name,by decide,Tryz.func183.trans (congrArg some (by kernel_rfl))⟩
 t0:=Tryz.underlying0
 a0:=Tryz.isAgg0
 z0:=Tryz.sizeOf0
 v0:=Tryz.zeroValue0
 t4:=Tryz.underlying4
 a4:=Tryz.isAgg4
 z4:=Tryz.sizeOf4
 v4:=Tryz.zeroValue4
 t23:=Tryz.underlying171
 a23:=Tryz.isAgg171
 z23:=Tryz.sizeOf171
 v23:=Tryz.zeroValue171
 t26:=Tryz.underlying9
 a26:=Tryz.isAgg9
 z26:=Tryz.sizeOf9
 v26:=Tryz.zeroValue9
 t27:=Tryz.underlying178
 a27:=Tryz.isAgg178
 z27:=Tryz.sizeOf178
 v27:=Tryz.zeroValue178
 t28:=Tryz.underlying179
 a28:=Tryz.isAgg179
 z28:=Tryz.sizeOf179
 v28:=Tryz.zeroValue179
 t33:=Tryz.underlying164
 a33:=Tryz.isAgg164
 z33:=Tryz.sizeOf164
 v33:=Tryz.zeroValue164 }
def Tryz.sorted116_ren:Go.Shelf.Ren:=⟨fun|6=>116|8=>182|9=>115|11=>242|13=>181|12=>180|23=>240|24=>241|14=>231|15=>232|16=>233|17=>234|18=>235|19=>236|20=>237|21=>238|22=>239|25=>289|26=>290|27=>291|28=>292|29=>293|30=>294|31=>317|n=>n,fun|26=>9|28=>179|24=>53|0=>0|3=>3|37=>248|48=>307|50=>309|4=>4|40=>301|39=>300|45=>182|5=>5|9=>9|51=>347|55=>351|57=>362|58=>157|33=>164|n=>n,fun|n=>n⟩
theorem Tryz.sorted116:Go.Proofs.SlLaysZ.n6 Tryz.prog Tryz.sorted116_ren:={
 mixed:=by kernel_rfl
 f6:=⟨Tryz.f116.name,by decide,Tryz.func116.trans (congrArg some (by kernel_rfl))⟩
 f8:=⟨Tryz.f182.name,by decide,Tryz.func182.trans (congrArg some (by kernel_rfl))⟩
 f11:=⟨Tryz.f242.name,by decide,Tryz.func242.trans (congrArg some (by kernel_rfl))⟩
 t0:=Tryz.underlying0
 a0:=Tryz.isAgg0
 z0:=Tryz.sizeOf0
 v0:=Tryz.zeroValue0
 t24:=Tryz.underlying53
 a24:=Tryz.isAgg53
 z24:=Tryz.sizeOf53
 v24:=Tryz.zeroValue53
 t26:=Tryz.underlying9
 a26:=Tryz.isAgg9
 z26:=Tryz.sizeOf9
 v26:=Tryz.zeroValue9
 t28:=Tryz.underlying179
 a28:=Tryz.isAgg179
 z28:=Tryz.sizeOf179
 v28:=Tryz.zeroValue179
 i26:=by kernel_rfl }
def Tryz.sort115_ren:Go.Shelf.Ren:=⟨fun|6=>115|8=>181|9=>180|19=>240|20=>241|21=>231|22=>232|23=>233|24=>234|25=>235|26=>236|27=>237|28=>238|29=>239|36=>289|31=>290|32=>291|37=>292|38=>293|39=>294|41=>317|n=>n,fun|27=>53|29=>9|3=>3|32=>248|26=>53|0=>0|44=>307|46=>309|4=>4|36=>301|35=>300|41=>182|5=>5|9=>9|53=>347|57=>351|63=>362|64=>157|n=>n,fun|n=>n⟩
theorem Tryz.sort115:Go.Proofs.SlLaysM.n6 Tryz.prog Tryz.sort115_ren:={
 mixed:=by kernel_rfl
 f6:=⟨Tryz.f115.name,by decide,Tryz.func115.trans (congrArg some (by kernel_rfl))⟩
 f8:=Tryz.func181.trans (congrArg some (by kernel_rfl))
 f9:=⟨Tryz.f180.name,by decide,Tryz.func180.trans (congrArg some (by kernel_rfl))⟩
 f19:=Tryz.func240.trans (congrArg some (by kernel_rfl))
 f20:=Tryz.func241.trans (congrArg some (by kernel_rfl))
 f21:=⟨Tryz.f231.name,by decide,Tryz.func231.trans (congrArg some (by kernel_rfl))⟩
 f22:=⟨Tryz.f232.name,by decide,Tryz.func232.trans (congrArg some (by kernel_rfl))⟩
 f23:=⟨Tryz.f233.name,by decide,Tryz.func233.trans (congrArg some (by kernel_rfl))⟩
 f24:=⟨Tryz.f234.name,by decide,Tryz.func234.trans (congrArg some (by kernel_rfl))⟩
 f25:=⟨Tryz.f235.name,by decide,Tryz.func235.trans (congrArg some (by kernel_rfl))⟩
 f26:=⟨Tryz.f236.name,by decide,Tryz.func236.trans (congrArg some (by kernel_rfl))⟩
 f27:=⟨Tryz.f237.name,by decide,Tryz.func237.trans (congrArg some (by kernel_rfl))⟩
 f28:=⟨Tryz.f238.name,by decide,Tryz.func238.trans (congrArg some (by kernel_rfl))⟩
 f29:=⟨Tryz.f239.name,by decide,Tryz.func239.trans (congrArg some (by kernel_rfl))⟩
 f31:=Tryz.func290.trans (congrArg some (by kernel_rfl))
 f32:=Tryz.func291.trans (congrArg some (by kernel_rfl))
 f36:=⟨Tryz.f289.name,by decide,Tryz.func289.trans (congrArg some (by kernel_rfl))⟩
 f37:=⟨Tryz.f292.name,by decide,Tryz.func292.trans (congrArg some (by kernel_rfl))⟩
 f38:=⟨Tryz.f293.name,by decide,Tryz.func293.trans (congrArg some (by kernel_rfl))⟩
 f39:=⟨Tryz.f294.name,by decide,Tryz.func294.trans (congrArg some (by kernel_rfl))⟩
 f41:=⟨Tryz.f317.name,by decide,Tryz.func317.trans (congrArg some (by kernel_rfl))⟩
 t0:=Tryz.underlying0
 a0:=Tryz.isAgg0
 z0:=Tryz.sizeOf0
 v0:=Tryz.zeroValue0
 t3:=Tryz.underlying3
 a3:=Tryz.isAgg3
 z3:=Tryz.sizeOf3
 v3:=Tryz.zeroValue3
 t4:=Tryz.underlying4
 a4:=Tryz.isAgg4
 z4:=Tryz.sizeOf4
 v4:=Tryz.zeroValue4
 t5:=Tryz.underlying5
 a5:=Tryz.isAgg5
 z5:=Tryz.sizeOf5
 v5:=Tryz.zeroValue5
 t9:=Tryz.underlying9
 a9:=Tryz.isAgg9
 z9:=Tryz.sizeOf9
 v9:=Tryz.zeroValue9
 t26:=Tryz.underlying53
 a26:=Tryz.isAgg53
 z26:=Tryz.sizeOf53
 v26:=Tryz.zeroValue53
 t27:=Tryz.underlying53
 a27:=Tryz.isAgg53
 z27:=Tryz.sizeOf53
 v27:=Tryz.zeroValue53
 t29:=Tryz.underlying9
 a29:=Tryz.isAgg9
 z29:=Tryz.sizeOf9
 v29:=Tryz.zeroValue9
 t32:=Tryz.underlying248
 a32:=Tryz.isAgg248
 z32:=Tryz.sizeOf248
 v32:=Tryz.zeroValue248
 t35:=Tryz.underlying300
 a35:=Tryz.isAgg300
 z35:=Tryz.sizeOf300
 v35:=Tryz.zeroValue300
 t36:=Tryz.underlying301
 a36:=Tryz.isAgg301
 z36:=Tryz.sizeOf301
 v36:=Tryz.zeroValue301
 t41:=Tryz.underlying182
 a41:=Tryz.isAgg182
 z41:=Tryz.sizeOf182
 v41:=Tryz.zeroValue182
 t44:=Tryz.underlying307
 a44:=Tryz.isAgg307
 z44:=Tryz.sizeOf307
 v44:=Tryz.zeroValue307
 t46:=Tryz.underlying309
 a46:=Tryz.isAgg309
 z46:=Tryz.sizeOf309
 v46:=Tryz.zeroValue309
 t53:=Tryz.underlying347
 a53:=Tryz.isAgg347
 z53:=Tryz.sizeOf347
 v53:=Tryz.zeroValue347
 t57:=Tryz.underlying351
 a57:=Tryz.isAgg351
 z57:=Tryz.sizeOf351
 v57:=Tryz.zeroValue351
 t63:=Tryz.underlying362
 a63:=Tryz.isAgg362
 z63:=Tryz.sizeOf362
 v63:=Tryz.zeroValue362
 t64:=Tryz.underlying157
 a64:=Tryz.isAgg157
 z64:=Tryz.sizeOf157
 v64:=Tryz.zeroValue157 }
open Go.RowKit Go.Maps Go.Sort Go.Shelf
theorem Tryz.sorts116(m:Nat):AnyZ.SortsIn Tryz.prog Tryz.sorted116_ren Fence.wide m:=
  ⟨fun blk off cap ss W hH hblk hsz=>callsIn_wide.2 (AnyM.slices_Sort_string Tryz.sort115 blk off cap ss W hH hblk hsz),
   fun p cap W=>callsIn_wide.2 (AnyM.slices_Sort_string_none Tryz.sort115 p cap W)⟩
theorem Tryz.maps_Keys_117(mb:Option Nat)(W:World):CallsIn Fence.wide 5 Tryz.prog 117 #[.map mb] W fun e w'=>e=.returned (.func (.func 183) #[] #[.pointer (some ⟨W.heap.size,0,none⟩)])∧w'=W.alloc (.cells #[.map mb] 171):=
 AnyZ.keys_in Tryz.keys117 Fence.wide 5 trivial rfl mb W
theorem Tryz.slices_Sorted_keys_116_117{H:Type}(b nn:Nat)(D0:DataW H)(R:Value→Option (DataW H×List MemPlace))(w:World)(hown:w.ownsMap Tryz.prog 9 R b nn D0)(hmax:Maps.size D0≤maxLen)(hbytes:Maps.size D0*16≤140737488355328) :
  CallsIn Fence.wide 5 Tryz.prog 116 #[.func (.func 183) #[] #[.pointer (some ⟨w.heap.size,0,none⟩)]] (w.alloc (.cells #[.map (some b)] 171)) fun e w'=>∃(v:Value) (ss:List (List UInt8)),e=.returned v∧ss.Perm (strKeys D0)∧
   w'.ownsRow (w.alloc (.cells #[.map (some b)] 171)).heap.size 9 1 v ss.length ((ss.mergeSort (fun x y=>decide (x≤y))).map encStr)∧(v=.slice none 0 0↔ss=[])∧Below (w.alloc (.cells #[.map (some b)] 171)).heap.size (w.alloc (.cells #[.map (some b)] 171)) w':=by
 have hbl:=hown.lt;have hseq:SeqGives Fence.wide 2 Tryz.prog 183 #[.pointer (some ⟨w.heap.size,0,none⟩)] encStr (fun ss=>ss.Perm (strKeys D0)) (Maps.size D0) (w.alloc (.cells #[.map (some b)] 171)):=
  AnyZ.keys_gives (ρ:=Tryz.keys117_ren) { Tryz.keys117 with } Fence.wide _ trivial rfl (by omega) w.heap.size b nn D0 _ (by simp) (by simp) (by
   obtain⟨es,clock,hb,Ft,hs,hD⟩:=hown;exact⟨es,clock,(Below.heap_alloc _ _ b hbl).trans hb,Ft,hs,hD⟩)
 exact AnyZ.sorted_in Tryz.sorted116 Fence.wide 5 trivial trivial trivial trivial rfl (by omega) (Tryz.sorts116 _) (enters_of Tryz.func115 (by kernel_rfl) rfl) 183 #[.pointer (some ⟨w.heap.size,0,none⟩)] trivial (enters_of Tryz.func183 (by kernel_rfl) rfl) _ _ hmax hbytes _ hseq
end Go.Proofs
namespace Go.Proofs.YtnmhaipjfpongacGreatDoor
open Go.ChangeShapes Go.WideShapes Go.ChangeAt Go.RowKit
abbrev unitR:Value→Option (DataW Unit×List MemPlace):=fun _=>some (.nil,[])
def Zcx:Value→B
 | .string s=>s.data.toList
 | _=>[]
theorem Zaw{H:Type}(x:Lit×DataW H):∀l,(DataW.insert x l).Perm (x :: l)
 | []=>List.Perm.refl _
 | y :: r=>by
  unfold DataW.insert;split
  ·exact List.Perm.refl _
  ·exact((Zaw x r).cons y).trans (List.Perm.swap _ _ _)
theorem Z60{H:Type}:∀l:List (Lit×DataW H),(l.foldr DataW.insert []).Perm l
 | []=>List.Perm.refl _
 | x :: r=>(Zaw x _).trans ((Z60 r).cons x)
theorem Zly{P:Program}{k:TypeId}(hk:P.underlying k=some .string){w:World}{mb:Nat}{L:FL}(h:KMap .string S S w mb L)(hl:∀q∈L,q.1.length≤1000000)(hn:L.length≤1000000) :
  ∃D0:DataW Unit,w.ownsMap P k unitR mb L.length D0∧Maps.size D0=L.length∧(strKeys D0).Perm (L.map (·.1)):=by
 obtain⟨es,clock,hb,hp,_,_,hst⟩:=h;have hsz:es.size=L.length:=by simpa using hp.length_eq
 have hkey:∀e∈es.toList,∃x:B,e.key=S x∧x.length≤1000000:=fun e he=>by
  have:=hp.mem_iff.1 (List.mem_map.2 ⟨e,he,rfl⟩)
  obtain⟨q,hq,e1⟩:=List.mem_map.1 this;exact⟨q.1,(Prod.mk.inj e1).1.symm,hl q hq⟩
 have hrd:∀e∈es.toList,WideElems.rd P k unitR e=some (.string (Zcx e.key),.nil):=fun e he=>by
  obtain⟨x,hx,hxl⟩:=hkey e he;have hm:(⟨x.toArray⟩:ByteArray).size≤maxLen:=by
   show x.toArray.size≤maxLen
   rw[List.size_toArray];unfold maxLen;omega
  unfold WideElems.rd;rw[hx];simp[keyOf,hk,mapKey,Zcx,hm]
 have hrg:es.toList.map (WideElems.rg P k unitR)=es.toList.map fun e=>((.string (Zcx e.key),.nil):Lit×DataW Unit):=
  List.map_congr_left fun e he=>by unfold WideElems.rg;rw[hrd e he];rfl
 refine⟨.map ((es.toList.map (WideElems.rg P k unitR)).foldr DataW.insert []),⟨es,clock,hb,⟨?_,hst,fun e he=>⟨_,hrd e he⟩⟩,by omega,rfl⟩,?_,?_⟩
 ·unfold maxLen;omega
 ·show (List.foldr DataW.insert [] _).length=_
  rw[(Z60 _).length_eq];simpa using hsz
 ·show (List.map _ (List.foldr DataW.insert [] _)).Perm _
  refine((Z60 _).map _).trans ?_;rw[hrg,List.map_map];have h1:=hp.map (fun q:Value×Value=>Zcx q.1)
  rw[List.map_map,List.map_map]at h1;have e2:((fun q:Value×Value=>Zcx q.1) ∘ fun p:B×B=>(S p.1,S p.2))=(·.1):=by
   funext q
   simp[Zcx]
  rw[e2]at h1;exact h1
theorem Zbx(w:World)(mb:Nat)(L:FL)(h:KMap .string S S w mb L)(hr:Rising L)(hl:∀q∈L,q.1.length≤1000000)(hn:L.length≤1000000) :
  Calls Tryz.prog 116 #[.func (.func 183) #[] #[.pointer (some ⟨w.heap.size,0,none⟩)]] (w.alloc (.cells #[.map (some mb)] 171)) fun e w'=>
   ∃v,e=.returned v∧Rd S w' v (L.map (·.1))∧Ext w w'∧∀k,v.ownBlock=some k→∃cur,w'.heap[k]?=some (.cells cur 9 (0,0)):=by
 obtain⟨D0,hown,hsz,hperm⟩:=Zly (P:=Tryz.prog) (k:=9) Tryz.underlying9 h hl hn;have:=Tryz.slices_Sorted_keys_116_117 mb _ D0 _ w hown (by rw[hsz];unfold maxLen;omega) (by rw[hsz];omega)
 refine(callsIn_wide.1 this).mono ?_;rintro e w' ⟨v,ss,rfl,hss,hrow,_,hbel⟩;have e1:=Zhu hr (hss.trans hperm);rw[e1]at hrow;have e2:ss.length=(L.map (·.1)).length:=by rw[(hss.trans hperm).length_eq]
 rw[e2]at hrow;refine⟨v,rfl,Rd.of_row hrow,(Only.alloc _ _ _).then (Only.of_below hbel),fun k hk=>?_⟩
 rcases hrow.2 with⟨rfl,_⟩|⟨g,cap,cur,rfl,_,hh,_⟩
 ·cases hk
 ·cases hk
  exact⟨cur,hh⟩
theorem Zof(w:World)(b mb:Nat)(L:FL)(h:Z0u w b mb L)(hr:Rising L)(hl:∀q∈L,q.1.length≤1000000)(hn:L.length≤1000000) :
  Calls Tryz.prog 41 #[.pointer (some ⟨b,0,none⟩)] w fun e w'=>∃v,e=.returned v∧Rd S w' v (L.map (·.1))∧Ext w w'∧∀k,v.ownBlock=some k→∃cur,w'.heap[k]?=some (.cells cur 9 (0,0)):=by
 have c0:=h.mapCell;have H1:=Q0 (callsIn_wide.1 (Tryz.maps_Keys_117 (some mb) w));have H2:=Q0 (Zbx w mb L h.map hr hl hn);clear h hr hl hn;go_enter Tryz.func41,Tryz.ntmps41;go_wp2_with (go_at_call 117;refine H1.out.mono ?_;rintro e w1 ⟨rfl,rfl⟩);go_wp2_with (go_at_call 116;refine H2.out.mono ?_;rintro e w1 ⟨v,rfl,hv,ho,ht⟩);go_ret;exact⟨v,rfl,hv,ho,ht⟩
theorem Z7m.done{w W w':World}{P:Nat→Addr}{b mb:Nat}{L:FL}{p x:B}(_:Z0u w b mb L)(hr:Rising L)(hc:Z06 L p x=0)(hE:Ext w W)(hW:Z0u W b mb L)(hm:KMap .string S S w' mb ((p,x) :: L.filter fun q=>!(q.1==p)))(ho:Only (fun i=>i=mb) W w') :
  Z7m w P b mb L p x (.returned .nilIface) w':=by
 have e1:putT L p x=setT L p x:=by unfold putT;rw[if_pos hc]
 refine⟨by rw[hc];rfl,?_,Only.after hE ho⟩
 rw[e1];exact hW.stores ho (hm.perm (set_perm hr p x))
theorem put_main(w:World)(P:Nat→Addr)(b mb:Nat)(L:FL)(p x:B)(h:Z0u w b mb L)(hf:Fits L)(hs:Errs w P [1,3,6,7])(hm:Z1m w)(hp:p.length≤999999)(hk:Z0y p=true)(hx:¬2000<x.length)(hq:∀q∈L,q.1.length≤999999) :
  Calls Tryz.prog 38 #[.pointer (some ⟨b,0,none⟩),S p,S x] w (Z7m w P b mb L p x):=by
 have HC:=Z8j w p (P 3) (by omega) hm (hs.var 3 _ (by decide) rfl)
 rw[hk,if_pos rfl]at HC;have HC:=Q0 HC;have hcode:Z06 L p x=if clash L p then 7 else if (L.lookup p).isNone&&decide (60≤L.length)then 8 else 0:=by unfold Z06;rw[hk,if_pos rfl,if_neg hx]
 have HK:=Q0 hcode;have H:=Q0 h;have HE:=Q0 (hs.var 6 _ (by decide) rfl)
 have HF:=Q0 (hs.var 7 _ (by decide) rfl)
 have HQ:=Q0 hq;have HFew:=Q0 hf.few;have hz:¬(2000:Int)<(x.length:Int):=by omega
 have hbp:=Zky p;have hlp:¬9223372036854775807<p.length+1:=by omega
 have hf:=Q0 hf;clear h hs hm hp hk hcode hx hq;go_enter Tryz.func38,Tryz.ntmps38;go_wp2_with fail;refine HC.out.mono ?_;rintro e w1 ⟨rfl,ho⟩;have h1:=H.out.ext ho;have c0:=h1.mapCell;obtain⟨es,clock,hb,hpm,_,_,hst⟩:=h1.map;have hrg:=run_range_map (P:=Tryz.prog) w1 171 9 9 mb es clock Tryz.underlying171 hb;have H1:=Q0 h1;have HB:=Q0 hb;have HP:=Q0 hpm;have HS:=Q0 hst;have HO:=Q0 ho;clear h1 hb hpm hst ho;go_wp2_with fail;have hmr:mb≠w1.heap.size:=Nat.ne_of_lt (Z03 HB.out);go_loopw [] (fun w'=>∃seen:Array Nat,Hid (Ext w1 w')∧Hid (w'.heap[w1.heap.size]?=some (.mapIter (some mb) clock seen clock))∧Hid (∀y∈es.toList,seen.contains y.born=true→near p (keyB y.key)=false)) (fun w'=>(leftOf es (w'.iterSeen w1.heap.size)).size)
 case atStart=>exact⟨#[],Q0 (Only.alloc _ _ _),Q0 (MapKept.heap_alloc w1 _).1,Q0 fun y _ h=>by simp at h⟩
 case round=>
  obtain⟨seen,HX,HR,HN⟩:=hrel;have law:=Zor (P:=Tryz.prog) (ty:=0) HX.out (Nat.le_refl _) HR.out (HX.out.heapOf HB.out (fun h=>h)) hmr HS.out
  rcases law with⟨h0,hrun⟩|⟨e,he,w3,hx3,hr3,hb3,hrun,hen⟩
  ·have hno:clash L p=false:=by
    rw[←Zkw HP.out,List.any_eq_false];intro y hy;rw[HN.out y hy (all_seen es seen h0 y hy)];decide
   have hcode:=HK.out;rw[hno,if_neg (by decide)]at hcode
   have hEW:Ext w wr:=HO.out.then HX.out;have hW:Z0u wr b mb L:=H.out.ext hEW;clear h0 HN hno HR;have c0W:=hW.mapCell;have hlook:=KMap.look (P:=Tryz.prog) Z08 hW.map Tryz.underlying171 Tryz.underlying9 (Z79 wr) p;have hlen:=fun ty=>Z0j.len (P:=Tryz.prog) hW.map Tryz.underlying171 ty
   simp only[List.length_map]at hlen;have hFull:=hEW.cellOf HF.out (fun h=>h)
   have HW:=Q0 hW;have HEW:=Q0 hEW;clear hW hEW hrg c0 HX;cases hl:L.lookup p with
   | none=>
    simp only[hl]at hlook;rw[hl]at hcode;by_cases hfull:60≤L.length
    ·have hc8:Z06 L p x=8:=by rw[hcode,if_pos (by simp[hfull])]
     have HC8:=Q0 hc8;have hfz:(60:Int)≤(L.length:Int):=by omega
     clear hcode hc8 hl hfull;go_wp2_with fail;go_ret;exact Z7m.fails H.out HC8.out (by decide) HEW.out
    ·have hc0:Z06 L p x=0:=by rw[hcode,if_neg (by simp[hfull])]
     have HC0:=Q0 hc0;have hfz:¬(60:Int)≤(L.length:Int):=by omega
     clear hcode hc0 hl hfull;obtain⟨w4,hrun4,hm4,ho4,_⟩:=KMap.store (P:=Tryz.prog) Z08 HW.out.map Tryz.underlying171 Tryz.underlying9 p x;go_wp2_with fail;go_ret;exact Z7m.done H.out hf.out.rising HC0.out HEW.out HW.out hm4 ho4
   | some y=>
    simp only[hl]at hlook;rw[hl]at hcode;have hc0:Z06 L p x=0:=by rw[hcode,if_neg (by simp)]
    have HC0:=Q0 hc0;clear hcode hc0 hl;obtain⟨w4,hrun4,hm4,ho4,_⟩:=KMap.store (P:=Tryz.prog) Z08 HW.out.map Tryz.underlying171 Tryz.underlying9 p x;go_wp2_with fail;go_ret;exact Z7m.done H.out hf.out.rising HC0.out HEW.out HW.out hm4 ho4
  ·obtain⟨q,hqL,hqk,hqv⟩:=Ziw HP.out (mem_left he).1
   have hql:=HQ.out q hqL;rw[hqk,hqv]at hrun hen;have HE2:=Q0 he;have HQK:=Q0 hqk;generalize q.1=s at hrun hen hql HQK;generalize q.2=sv at hrun hen;have hbs:=Zky s;have hls:¬9223372036854775807<s.length+1:=by omega
   have hqc:near p s=true→clash L p=true:=fun h=>by
    rw[←Zkw HP.out,List.any_eq_true];exact⟨e,(mem_left HE2.out).1,by rw[HQK.out];simpa [keyB] using h⟩
   have HQC:=Q0 hqc;have HP1:=fun W=>Z87 W s (p++[47])
   have HP2:=fun W=>Z87 W p (s++[47])
   have hnear:near p s=((p++[47]).isPrefixOf s || (s++[47]).isPrefixOf p):=rfl
   have HNE:=Q0 hnear;have HX3:=Q0 hx3;have HR3:=Q0 hr3;have hEW:Ext w w3:=HO.out.then hx3;clear he hqk hqv hx3 hr3 hb3 hqL hql hqc hnear;have hExist:=hEW.cellOf HE.out (fun h=>h)
   have HEW:=Q0 hEW;clear hEW;generalize (p++[47]).isPrefixOf s=r1 at HP1 HNE;generalize (s++[47]).isPrefixOf p=r2 at HP2 HNE;have HP1:=Q0 HP1;have HP2:=Q0 HP2;cases r1 with
   | true=>
    go_wp2_with fail;refine(HP1.out _).mono ?_
    rintro e1 w4 ⟨rfl,rfl⟩;go_wp2_with fail;go_ret;exact Z7m.fails H.out (by rw[HK.out,if_pos (HQC.out HNE.out)]) (by decide) HEW.out
   | false=>
    cases r2 with
    | true=>
     go_wp2_with fail;refine(HP1.out _).mono ?_
     rintro e1 w4 ⟨rfl,rfl⟩;go_wp2_with fail;refine(HP2.out _).mono ?_;rintro e1 w4 ⟨rfl,rfl⟩;go_wp2_with fail;go_ret;exact Z7m.fails H.out (by rw[HK.out,if_pos (HQC.out HNE.out)]) (by decide) HEW.out
    | false=>
     go_wp2_with fail;refine(HP1.out _).mono ?_
     rintro e1 w4 ⟨rfl,rfl⟩;go_wp2_with fail;refine(HP2.out _).mono ?_;rintro e1 w4 ⟨rfl,rfl⟩;go_wp2_with fail;go_roundw
     case rel=>
      refine⟨seen.push e.born,HX3,HR3,Q0 fun y hy hc=>?_⟩
      rw[contains_push]at hc;rcases Bool.or_eq_true _ _ ▸ hc with h1|h1
      ·exact HN.out y hy h1
      ·have:y=e:=born_inj HS.out.2.1 hy (mem_left HE2.out).1 (beq_iff_eq.1 h1)
       subst this;rw[HQK.out];simpa [keyB] using HNE.out
     case measure=>
      rw[Z0b HR3.out,Z0b HR.out];exact left_shrinks es seen e HE2.out
theorem Zaa(w:World)(P:Nat→Addr)(b mb:Nat)(L:FL)(p x:B)(h:Z0u w b mb L)(hf:Fits L)(hs:Errs w P [1,3,6,7])(hm:Z1m w)(hp:p.length≤999999)(hq:∀q∈L,q.1.length≤999999) :
  Calls Tryz.prog 38 #[.pointer (some ⟨b,0,none⟩),S p,S x] w (Z7m w P b mb L p x):=by
 cases hk:Z0y p with
 | false=>exact put_bad w P b mb L p x h hs hm hp hk
 | true=>
  by_cases hx:2000<x.length
  ·exact put_long w P b mb L p x h hs hm hp hk hx
  ·exact put_main w P b mb L p x h hf hs hm hp hk hx hq
end Go.Proofs.YtnmhaipjfpongacGreatDoor
