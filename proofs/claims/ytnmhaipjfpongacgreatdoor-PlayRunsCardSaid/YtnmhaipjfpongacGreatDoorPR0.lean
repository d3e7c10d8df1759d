/- A part of this claim's proof;each theorem bears its own conditions. -/
import Derived.BigQuiet
import Derived.Lib.SliceRun
import Derived.ProofKit
import Derived.Sort.EncStr
import Derived.WalkKit
import Derived.Stop.Asserts
import Derived.Test.YtnmhaipjfpongacGreatDoorProg
import Derived.Deep.AppendLies
import Derived.HandedShaped
import Derived.Lay
import Derived.OpenShut
import Derived.Shelf.Vars
import Derived.Deep.RegionHeld3
namespace Go.Proofs.YtnmhaipjfpongacGreatDoor
open Go.ChangeShapes Go.WideShapes Go.ChangeAt Go.RowKit
open Go.MapKept (findNow_spec IsKey Stamped bytes_beq stamped_empty stamped_push stamped_modify stamped_erase run_checkKey run_findKey run_keyThatStays heap_set heap_alloc)
open Go.ChangeMaps (setBlock)
theorem Q0{p:Prop}(h:p):Go.RowKit.Hid p:=h
theorem Q1{α:Type _}{l:List α}{i:Nat}(h:i<l.length):l[i]?=some l[i]:=List.getElem?_eq_getElem h
theorem Q2{α:Type _}{l:List α}{i:Nat}{a:α}(h:l[i]?=some a):∃h:i<l.length,l[i]=a:=List.getElem?_eq_some_iff.1 h
theorem Q3{α:Type _}[BEq α][LawfulBEq α]{a b:α}(h:a≠b):(a==b)=false:=beq_eq_false_iff_ne.2 h
theorem Q4{α:Type _}{l:List α}{i:Nat}{a:α}(h:l[i]?=some a):a∈l:=List.mem_of_getElem? h
abbrev B:=List UInt8
abbrev S(l:B):Value:=.string ⟨l.toArray⟩
abbrev I(n:Int):Value:=.int .i64 n
theorem S_inj{a b:B}(h:S a=S b):a=b:=by simpa using h
structure Only(p:Nat→Prop)(w w':World):Prop where
 os:w'.os=w.os
 tape:w'.tape=w.tape
 output:w'.output=w.output
 size:w.heap.size≤w'.heap.size
 block:∀k,k<w.heap.size→¬p k→w'.heap[k]?=w.heap[k]?
abbrev Ext(w w':World):Prop:=Only (fun _=>False) w w'
theorem Only.refl(p:Nat→Prop)(w:World):Only p w w:=⟨rfl,rfl,rfl,Nat.le_refl _,fun _ _ _=>rfl⟩
theorem Only.mono{p q:Nat→Prop}{w w':World}(h:Only p w w')(hpq:∀k,k<w.heap.size→p k→q k):Only q w w':=
 ⟨h.os,h.tape,h.output,h.size,fun k hk hq=>h.block k hk fun hp=>hq (hpq k hk hp)⟩
theorem Only.trans{p q r:Nat→Prop}{a b c:World}(h:Only p a b)(k:Only q b c)(hp:∀i,i<a.heap.size→p i→r i)(hq:∀i,i<a.heap.size→q i→r i):Only r a c:=
 ⟨k.os.trans h.os,k.tape.trans h.tape,k.output.trans h.output,Nat.le_trans h.size k.size,fun i hi hr=>
  (k.block i (Nat.lt_of_lt_of_le hi h.size) fun h'=>hr (hq i hi h')).trans (h.block i hi fun h'=>hr (hp i hi h'))⟩
theorem Only.then{p:Nat→Prop}{a b c:World}(h:Only p a b)(k:Only p b c):Only p a c:=h.trans k (fun _ _ h=>h) (fun _ _ h=>h)
theorem Only.ext{p:Nat→Prop}{a b c:World}(h:Only p a b)(k:Ext b c):Only p a c:=h.trans k (fun _ _ h=>h) (fun _ _ h=>h.elim)
theorem Only.after{p:Nat→Prop}{a b c:World}(h:Ext a b)(k:Only p b c):Only p a c:=h.trans k (fun _ _ h=>h.elim) (fun _ _ h=>h)
theorem Only.of_ext{p:Nat→Prop}{w w':World}(h:Ext w w'):Only p w w':=h.mono fun _ _ h=>h.elim
theorem Only.alloc(p:Nat→Prop)(w:World)(o:Obj):Only p w (w.alloc o):=
 ⟨rfl,rfl,rfl,by simp,fun k hk _=>Below.heap_alloc _ _ _ hk⟩
theorem Only.drew(p:Nat→Prop)(w:World):Only p w w.drew:=⟨rfl,rfl,rfl,Nat.le_refl _,fun _ _ _=>rfl⟩
theorem Only.drewN(p:Nat→Prop)(w:World)(n:Nat):Only p w (w.drewN n):=⟨rfl,rfl,rfl,Nat.le_refl _,fun _ _ _=>rfl⟩
theorem Only.set{p:Nat→Prop}{w:World}{a:Addr}(u:Value)(h:p a.block):Only p w (w.setCell a u):=
 ⟨rfl,rfl,rfl,by simp[World.setCell],fun k _ hp=>Below.heap_setCell _ _ _ _ fun e=>hp (e ▸ h)⟩
theorem Only.thenAlloc{p:Nat→Prop}{a b:World}(h:Only p a b)(o:Obj):Only p a (b.alloc o):=h.then (Only.alloc p b o)
theorem Only.thenDrew{p:Nat→Prop}{a b:World}(h:Only p a b):Only p a b.drew:=h.then (Only.drew p b)
theorem Only.thenDrewN{p:Nat→Prop}{a b:World}(h:Only p a b)(n:Nat):Only p a (b.drewN n):=h.then (Only.drewN p b n)
theorem Only.thenSet{p:Nat→Prop}{a b:World}(h:Only p a b){x:Addr}(u:Value)(hx:p x.block∨a.heap.size≤x.block):Only p a (b.setCell x u):=
 ⟨h.os,h.tape,h.output,by simpa [World.setCell] using h.size,fun k hk hp=>by
  rw[Below.heap_setCell _ _ _ _ (fun e=>by rcases hx with hx|hx;exact hp (e ▸ hx);omega)];exact h.block k hk hp⟩
theorem Only.of_grown{w w':World}{row:Option Nat}(h:w.grownBy w' row):Only (fun k=>row=some k) w w':=
 ⟨h.os,h.tape,h.output,h.size,fun k hk hp=>h.block k hk fun e=>hp e.symm⟩
theorem Only.grown{w w':World}{row:Option Nat}(h:Only (fun k=>row=some k) w w'):w.grownBy w' row:=
 ⟨h.os,h.tape,h.output,h.size,fun k hk hp=>h.block k hk fun e=>hp e.symm⟩
theorem Only.thenGrown{p:Nat→Prop}{a b c:World}{row:Option Nat}(h:Only p a b)(k:b.grownBy c row)(hr:∀i,row=some i→p i∨a.heap.size≤i):Only p a c:=
 h.trans (Only.of_grown k) (fun _ _ h=>h) fun i hi e=>by rcases hr i e with h|h;exact h;omega
theorem Only.of_below{w w':World}(h:Below w.heap.size w w'):Ext w w':=⟨h.os,h.tape,h.output,h.size,fun k hk _=>h.block k hk⟩
theorem Only.below{w w':World}{p:Nat→Prop}{n:Nat}(h:Only p w w')(hn:n≤w.heap.size)(hp:∀k,k<n→¬p k):Below n w w':=
 ⟨h.os,h.tape,h.output,h.size,fun k hk=>h.block k (by omega) (hp k hk)⟩
theorem Only.extBelow{w w':World}(h:Ext w w'):Below w.heap.size w w':=Only.below h (Nat.le_refl _) fun _ _ h=>h
theorem Only.cell{p:Nat→Prop}{w w':World}(h:Only p w w'){a:Addr}(hl:a.block<w.heap.size)(hp:¬p a.block):w'.cell? a=w.cell? a:=World.cell?_of_block (h.block _ hl hp)
theorem Only.frozen{p:Nat→Prop}{w w':World}(h:Only p w w'){a:Addr}(hl:a.block<w.heap.size)(hp:¬p a.block):w'.frozen? a=w.frozen? a:=World.frozen?_of_block (h.block _ hl hp)
theorem Z3d{w:World}{a:Addr}{v:Value}(h:w.cell? a=some v):a.block<w.heap.size:=by
 rcases Nat.lt_or_ge a.block w.heap.size with h'|h'
 ·exact h'
 ·simp[World.cell?,Array.getElem?_eq_none h']at h
theorem Z03{w:World}{b:Nat}{o:Obj}(h:w.heap[b]?=some o):b<w.heap.size:=(Array.getElem?_eq_some_iff.1 h).1
theorem Only.cellOf{p:Nat→Prop}{w w':World}(h:Only p w w'){a:Addr}{v:Value}(hc:w.cell? a=some v)(hp:¬p a.block):w'.cell? a=some v:=(h.cell (Z3d hc) hp).trans hc
theorem Only.heapOf{p:Nat→Prop}{w w':World}(h:Only p w w'){b:Nat}{o:Obj}(hc:w.heap[b]?=some o)(hp:¬p b):w'.heap[b]?=some o:=(h.block b (Z03 hc) hp).trans hc
theorem Only.row{p:Nat→Prop}{w w':World}(h:Only p w w'){base:Nat}{e:TypeId}{size:Nat}{v:Value}{n:Nat}{xs:List Value}(hr:w.ownsRow base e size v n xs)(hp:∀k,v.ownBlock=some k→¬p k):w'.ownsRow base e size v n xs:=by
 obtain⟨h1,h2⟩:=hr;refine⟨h1,?_⟩;rcases h2 with h2|⟨g,cap,cur,hv,hg,hh,r⟩
 ·exact .inl h2
 ·exact .inr ⟨g,cap,cur,hv,hg,h.heapOf hh (hp g (by rw[hv];rfl)),r⟩
theorem Zk2{w:World}{base g n cap:Nat}{e:TypeId}{xs ys:List Value}(h:w.ownsRow base e 1 (.slice (some ⟨g,0,none⟩) n cap) n xs)(m:Nat)(hm:m≤n)(hy:xs.take m=ys) :
  w.ownsRow base e 1 (.slice (some ⟨g,0,none⟩) m cap) m ys:=by
 subst hy;obtain⟨h1,h2⟩:=h;rcases h2 with⟨h2,_⟩|⟨g',cap',cur,hv,hg,hh,hc,hx,hs,ht⟩
 ·cases h2
 ·cases hv
  refine⟨by simp;omega,.inr ⟨g,cap,cur,rfl,hg,hh,by omega,hx,hs,?_⟩⟩
  rw[←ht,List.take_take];congr 1;omega
def Rd{α:Type}(enc:α→Value)(w:World)(v:Value)(l:List α):Prop:=
 ∃a cap,v=.slice a l.length cap∧l.length≤cap∧cap≤maxLen∧(l≠[]→∃b off,a=some ⟨b,off,none⟩∧∀i x,l[i]?=some x→w.cell? ⟨b,off+i,none⟩=some (enc x))
theorem Rd.nil{α:Type}(enc:α→Value)(w:World):Rd enc w (.slice none 0 0) []:=⟨none,0,rfl,Nat.le_refl _,Nat.zero_le _,fun h=>absurd rfl h⟩
theorem Rd.of_row{α:Type}{enc:α→Value}{w:World}{base:Nat}{e:TypeId}{v:Value}{n:Nat}{l:List α}(h:w.ownsRow base e 1 v n (l.map enc)):Rd enc w v l:=by
 obtain⟨h1,h2⟩:=h;have hn:l.length=n:=by simpa using h1
 subst hn;rcases h2 with⟨rfl,h2⟩|⟨g,cap,cur,rfl,hg,hh,hc,hm,hs,ht⟩
 ·exact⟨none,0,by rw[h2],by omega,Nat.zero_le _,fun h=>absurd (List.length_eq_zero_iff.1 h2) h⟩
 ·refine⟨_,cap,rfl,hc,hm,fun _=>⟨g,0,rfl,fun i x hx=>?_⟩⟩
  have hi:i<l.length:=(Q2 hx).1;have hcell:cur[i]?=(cur.toList.take (l.length*1))[i]?:=by rw[List.getElem?_take_of_lt (by omega)];simp
  rw[ht,List.getElem?_map,hx]at hcell;simp[World.cell?,hh,hcell]
theorem Rd.later{α:Type}{enc:α→Value}{w w':World}{v:Value}{l:List α}(h:Rd enc w v l){p:Nat→Prop}(ho:Only p w w')(hp:∀k,v.ownBlock=some k→¬p k):Rd enc w' v l:=by
 obtain⟨a,cap,rfl,h1,h2,h3⟩:=h;refine⟨a,cap,rfl,h1,h2,fun hl=>?_⟩
 obtain⟨b,off,rfl,hc⟩:=h3 hl;exact⟨b,off,rfl,fun i x hx=>ho.cellOf (hc i x hx) (hp b rfl)⟩
theorem Rd.ext{α:Type}{enc:α→Value}{w w':World}{v:Value}{l:List α}(h:Rd enc w v l)(ho:Ext w w'):Rd enc w' v l:=h.later ho fun _ _ h=>h
def Zcm(cur:Array Value):Nat→List Value→Array Value
 | _,[]=>cur
 | o,v :: r=>Zcm (cur.setIfInBounds o v) (o+1) r
theorem Zag:∀(vs:List Value)(cur:Array Value)(o:Nat),(Zcm cur o vs).size=cur.size
 | [],_,_=>rfl
 | v :: r,cur,o=>by rw[Zcm,Zag r];simp
theorem Z7q(cur:Array Value)(o n:Nat)(v:Value)(h:n≤o):(cur.setIfInBounds o v).toList.take n=cur.toList.take n:=by
 rw[Array.toList_setIfInBounds];apply List.ext_getElem?;intro i;rw[List.getElem?_take,List.getElem?_take,List.getElem?_set];split
 ·rw[if_neg (by omega)]
 ·rfl
theorem Zac:∀(vs:List Value)(cur:Array Value)(o n:Nat),n≤o→(Zcm cur o vs).toList.take n=cur.toList.take n
 | [],_,_,_,_=>rfl
 | v :: r,cur,o,n,h=>by rw[Zcm,Zac r _ _ _ (by omega),Z7q _ _ _ _ h]
theorem Z01{w:World}{b:Nat}{cur:Array Value}{e:TypeId}{fr:Nat×Nat}(h:w.heap[b]?=some (.cells cur e fr))(o:Nat)(v:Value) :
  (w.setCell ⟨b,o,none⟩ v).heap[b]?=some (.cells (cur.setIfInBounds o v) e fr):=by
 simp only[World.setCell,Array.getElem?_modify,if_true,h,Option.map_some];rfl
theorem Z86{b:Nat}{e:TypeId}{fr:Nat×Nat}:∀(vs:List Value)(o:Nat)(w:World)(cur:Array Value),w.heap[b]?=some (.cells cur e fr)→
  (w.setCells b o vs).heap[b]?=some (.cells (Zcm cur o vs) e fr)
 | [],_,_,_,h=>h
 | v :: r,o,_,_,h=>Z86 r (o+1) _ _ (Z01 h o v)
theorem Z5e(b:Nat):∀(vs:List Value)(o:Nat)(w:World),Only (fun k=>k=b) w (w.setCells b o vs)
 | [],_,w=>Only.refl _ w
 | v :: r,o,w=>(Only.set (p:=fun k=>k=b) (w:=w) (a:=⟨b,o,none⟩) v rfl).then (Z5e b r (o+1) _)
theorem Z00{w:World}{b:Nat}{cur:Array Value}{e:TypeId}{fr:Nat×Nat}(h:w.heap[b]?=some (.cells cur e fr))(o:Nat):w.cell? ⟨b,o,none⟩=cur[o]?:=by simp[World.cell?,h]
theorem Z02{w:World}{b:Nat}{cur:Array Value}{e:TypeId}(h:w.heap[b]?=some (.cells cur e (0,0)))(o:Nat):w.frozen? ⟨b,o,none⟩=false:=by simp[World.frozen?,h]
def Z0j(d:TypeDesc)(w:World)(b:Nat)(l:List (Value×Value)):Prop:=
 ∃es clock,w.heap[b]?=some (.map es clock)∧(es.toList.map fun e=>(e.key,e.val)).Perm l∧(∀x∈l,IsKey d x.1)∧(l.map (·.1)).Nodup∧Stamped es clock
section
variable {d:TypeDesc}{P:Program}{w w':World}{b:Nat}{l:List (Value×Value)}{t kt et:TypeId}
theorem Z0j.perm{l':List (Value×Value)}(h:Z0j d w b l)(hp:l.Perm l'):Z0j d w b l':=by
 obtain⟨es,c,h1,h2,h3,h4,h5⟩:=h;exact⟨es,c,h1,h2.trans hp,fun x hx=>h3 x (hp.symm.mem_iff.1 hx),(hp.map _).nodup_iff.1 h4,h5⟩
theorem Z0j.lt(h:Z0j d w b l):b<w.heap.size:=by obtain⟨es,c,h1,_⟩:=h;exact Z03 h1
theorem Z0j.later{p:Nat→Prop}(h:Z0j d w b l)(ho:Only p w w')(hp:¬p b):Z0j d w' b l:=by
 obtain⟨es,c,h1,r⟩:=h;exact⟨es,c,ho.heapOf h1 hp,r⟩
theorem Z0j.made(w:World)(d:TypeDesc):Z0j d (w.alloc (.map #[] 0)) w.heap.size []:=
 ⟨#[],0,(heap_alloc w _).1,by simp,by simp,by simp,stamped_empty 0⟩
theorem Z0l(w:World)(b:Nat)(o:Obj):Only (fun k=>k=b) w (setBlock w b o):=
 ⟨rfl,rfl,rfl,by simp[setBlock],fun k _ hk=>by simp[setBlock,Ne.symm hk]⟩
theorem Z0j.keyMem{es:Array MapEntry}(h2:(es.toList.map fun e=>(e.key,e.val)).Perm l){k:Value}:(∃e∈es.toList,e.key=k)↔k∈l.map (·.1):=by
 rw[←(h2.map (·.1)).mem_iff];simp
theorem Z0j.look_miss(h:Z0j d w b l)(ht:P.underlying t=some (.map kt et))(hk:P.underlying kt=some d){k z:Value}(hz:(zeroValue et).run P w=.ok z w)(hkey:IsKey d k)(hm:k∉l.map (·.1))(c:Bool) :
  (Instr.lookup t (.map (some b)) k c).run P w=.ok (if c then .tuple #[z,.bool false]else z) w:=by
 obtain⟨es,clock,h1,h2,h3,h4,h5⟩:=h;have hks:∀x∈es.toList,IsKey d x.key:=fun x hx=>h3 (x.key,x.val) (h2.mem_iff.1 (List.mem_map.2 ⟨x,hx,rfl⟩))
 rcases findNow_spec hkey es.toList 0 hks with⟨f1,_⟩|⟨j,e,f1,f2,f3⟩
 ·simp[Instr.lookup,run_underlying ht,MapKept.run_getObj_map h1,run_checkKey hk hkey,run_findKey hk f1,hz,Result.andThen]
 ·exact absurd ((Z0j.keyMem h2).1 ⟨e,Q4 f2,f3⟩) hm
theorem Z0j.look_hit(h:Z0j d w b l)(ht:P.underlying t=some (.map kt et))(hk:P.underlying kt=some d){k v:Value}(hkey:IsKey d k)(hm:(k,v)∈l)(c:Bool) :
  (Instr.lookup t (.map (some b)) k c).run P w=.ok (if c then .tuple #[v,.bool true]else v) w:=by
 obtain⟨es,clock,h1,h2,h3,h4,h5⟩:=h;have hks:∀x∈es.toList,IsKey d x.key:=fun x hx=>h3 (x.key,x.val) (h2.mem_iff.1 (List.mem_map.2 ⟨x,hx,rfl⟩))
 rcases findNow_spec hkey es.toList 0 hks with⟨f1,f2⟩|⟨j,e,f1,f2,f3⟩
 ·obtain⟨e,he,heq⟩:=List.mem_map.1 (h2.mem_iff.2 hm)
  exact absurd (congrArg Prod.fst heq) (f2 e he)
 ·have hv:e.val=v:=by
   have hm2:(k,e.val)∈l:=h2.mem_iff.1 (List.mem_map.2 ⟨e,Q4 f2,by rw[f3]⟩)
   have hmm:=List.pairwise_map.1 h4;by_cases hne:e.val=v
   ·exact hne
   ·exact absurd (show ((k,e.val):Value×Value).1=((k,v):Value×Value).1 from rfl) (fun hh=>by
     have:=List.Pairwise.forall_of_forall_of_flip (R:=fun x y:Value×Value=>x.1=y.1→x=y) (l:=l) (fun x _ _=>rfl) (hmm.imp fun h e=>absurd e h) (hmm.imp fun h e=>absurd e.symm h) hm2 hm hh
     exact hne (congrArg Prod.snd this))
  simp[Instr.lookup,run_underlying ht,MapKept.run_getObj_map h1,run_checkKey hk hkey,run_findKey hk f1,hv,Result.andThen]
theorem Z0j.store_new(h:Z0j d w b l)(ht:P.underlying t=some (.map kt et))(hk:P.underlying kt=some d){k:Value}(v:Value)(hkey:IsKey d k)(hm:k∉l.map (·.1)) :
  ∃w',(Instr.mapUpdate t (.map (some b)) k v).run P w=.ok () w'∧Z0j d w' b ((k,v) :: l)∧Only (fun i=>i=b) w w'∧w'.heap.size=w.heap.size:=by
 obtain⟨es,clock,h1,h2,h3,h4,h5⟩:=h;have hks:∀x∈es.toList,IsKey d x.key:=fun x hx=>h3 (x.key,x.val) (h2.mem_iff.1 (List.mem_map.2 ⟨x,hx,rfl⟩))
 rcases findNow_spec hkey es.toList 0 hks with⟨f1,f2⟩|⟨j,e,f1,f2,f3⟩
 ·refine⟨setBlock w b (.map (es.push ⟨k,v,clock⟩) (clock+1)),?_,⟨_,_,(heap_set h1).1,?_,?_,?_,stamped_push h5 f2⟩,Z0l _ _ _,by simp[setBlock]⟩
  ·simp[Instr.mapUpdate,run_underlying ht,MapKept.run_getObj_map h1,run_checkKey hk hkey,run_findKey hk f1,MapKept.run_setObj_map _ h1,Result.andThen,setBlock]
  ·simp only[Array.toList_push,List.map_append,List.map_cons,List.map_nil]
   exact List.perm_append_singleton _ _ |>.trans (h2.cons _)
  ·intro x hx
   rcases List.mem_cons.1 hx with rfl|hx
   ·exact hkey
   ·exact h3 x hx
  ·simpa using ⟨by simpa using hm,h4⟩
 ·exact absurd ((Z0j.keyMem h2).1 ⟨e,Q4 f2,f3⟩) hm
theorem Z0j.store_old{v0:Value}{k:Value}(h:Z0j d w b ((k,v0) :: l))(ht:P.underlying t=some (.map kt et))(hk:P.underlying kt=some d)(v:Value) :
  ∃w',(Instr.mapUpdate t (.map (some b)) k v).run P w=.ok () w'∧Z0j d w' b ((k,v) :: l)∧Only (fun i=>i=b) w w'∧w'.heap.size=w.heap.size:=by
 obtain⟨es,clock,h1,h2,h3,h4,h5⟩:=h;have hkey:IsKey d k:=h3 (k,v0) (.head _);have hks:∀x∈es.toList,IsKey d x.key:=fun x hx=>h3 (x.key,x.val) (h2.mem_iff.1 (List.mem_map.2 ⟨x,hx,rfl⟩))
 rcases findNow_spec hkey es.toList 0 hks with⟨f1,f2⟩|⟨j,e,f1,f2,f3⟩
 ·obtain⟨e,he,heq⟩:=List.mem_map.1 (h2.mem_iff.2 (List.Mem.head _))
  exact absurd (congrArg Prod.fst heq) (f2 e he)
 ·have hj:es[j]?=some e:=by simpa using f2
  have hjl:j<es.toList.length:=(Q2 f2).1;have hkeyf:∀e',es[j]?=some e'→({ e' with key:=k,val:=v }:MapEntry).key=e'.key:=fun e' he'=>by rw[hj]at he';cases he';exact f3.symm
  have hnd:∀v',(((k,v') :: l).map (·.1)).Nodup:=fun v'=>by simpa using h4
  refine⟨setBlock w b (.map (es.modify j fun e'=>{ e' with key:=k,val:=v }) clock),?_,⟨_,_,(heap_set h1).1,?_,?_,hnd v,stamped_modify h5 _ _ (fun _ _=>rfl) (fun e' _ he'=>hkeyf e' he')⟩,Z0l _ _ _,by simp[setBlock]⟩
  ·simp[Instr.mapUpdate,run_underlying ht,MapKept.run_getObj_map h1,run_checkKey hk hkey,run_findKey hk f1,hj,f3,run_keyThatStays hkey,MapKept.run_setObj_map _ h1,Result.andThen,setBlock]
  ·rw[Array.toList_modify,ChangeMaps.modify_eq_set _ _ _ _ f2,List.map_set]
   have e0:(es.toList.map fun e=>(e.key,e.val))[j]?=some (k,e.val):=by simp[hj,f3]
   have p1:=ChangeMaps.set_perm (es.toList.map fun e=>(e.key,e.val)) j (by simpa using hjl) (k,v)
   have p2:=ChangeMaps.set_perm (es.toList.map fun e=>(e.key,e.val)) j (by simpa using hjl) (k,e.val)
   have e3:(es.toList.map fun e=>(e.key,e.val)).set j (k,e.val)=es.toList.map fun e=>(e.key,e.val):=by
    apply List.ext_getElem?
    intro i
    rw[List.getElem?_set];split
    ·rename_i hji;subst hji;rw[e0];simp;omega
    ·rfl
   rw[e3]at p2;have hval:(k,e.val)=(k,v0):=by
    have hm:(k,e.val)∈(k,v0) :: l:=h2.mem_iff.1 (List.mem_map.2 ⟨e,Q4 f2,by rw[f3]⟩)
    rcases List.mem_cons.1 hm with hm|hm
    ·exact hm
    ·have h4':k∉l.map (·.1):=by simpa using (List.nodup_cons.1 h4).1
     exact absurd (List.mem_map.2 ⟨_,hm,rfl⟩) h4'
   rw[hval]at p2;have p3:=List.Perm.cons_inv (p2.symm.trans h2);exact p1.trans (p3.cons _)
  ·intro x hx
   rcases List.mem_cons.1 hx with rfl|hx
   ·exact hkey
   ·exact h3 x (.tail _ hx)
theorem Zfd(es:Array MapEntry)(j:Nat)(hj:j<es.size):(es.eraseIdxIfInBounds j).toList=es.toList.eraseIdx j:=by
 unfold Array.eraseIdxIfInBounds;rw[dif_pos hj];simp
theorem Z0j.drop_old{v0:Value}{k:Value}(h:Z0j d w b ((k,v0) :: l))(ht:P.underlying t=some (.map kt et))(hk:P.underlying kt=some d)(ty:TypeId) :
  ∃w',(Builtin.delete_ #[t,kt] ty #[.map (some b),k]).run P w=.ok (.tuple #[]) w'∧Z0j d w' b l∧Only (fun i=>i=b) w w'∧w'.heap.size=w.heap.size:=by
 obtain⟨es,clock,h1,h2,h3,h4,h5⟩:=h;have hkey:IsKey d k:=h3 (k,v0) (.head _);have hks:∀x∈es.toList,IsKey d x.key:=fun x hx=>h3 (x.key,x.val) (h2.mem_iff.1 (List.mem_map.2 ⟨x,hx,rfl⟩))
 rcases findNow_spec hkey es.toList 0 hks with⟨f1,f2⟩|⟨j,e,f1,f2,f3⟩
 ·obtain⟨e,he,heq⟩:=List.mem_map.1 (h2.mem_iff.2 (List.Mem.head _))
  exact absurd (congrArg Prod.fst heq) (f2 e he)
 ·have hj:es[j]?=some e:=by simpa using f2
  have hjl:j<es.toList.length:=(Q2 f2).1;refine⟨setBlock w b (.map (es.eraseIdxIfInBounds j) clock),?_,⟨_,_,(heap_set h1).1,?_,fun x hx=>h3 x (.tail _ hx),?_,stamped_erase h5 j⟩,Z0l _ _ _,by simp[setBlock]⟩
  ·simp[Builtin.delete_,run_underlying ht,MapKept.run_getObj_map h1,run_checkKey hk hkey,run_findKey hk f1,MapKept.run_setObj_map _ h1,Result.andThen,setBlock]
  ·rw[Zfd _ _ (by simpa using hjl),ChangeMaps.map_eraseIdx]
   have e0:(es.toList.map fun e=>(e.key,e.val))[j]?=some (k,e.val):=by simp[hj,f3]
   have p2:=ChangeMaps.set_perm (es.toList.map fun e=>(e.key,e.val)) j (by simpa using hjl) (k,e.val)
   have e3:(es.toList.map fun e=>(e.key,e.val)).set j (k,e.val)=es.toList.map fun e=>(e.key,e.val):=by
    apply List.ext_getElem?
    intro i
    rw[List.getElem?_set];split
    ·rename_i hji;subst hji;rw[e0];simp;omega
    ·rfl
   rw[e3]at p2;have hval:(k,e.val)=(k,v0):=by
    have hm:(k,e.val)∈(k,v0) :: l:=h2.mem_iff.1 (List.mem_map.2 ⟨e,Q4 f2,by rw[f3]⟩)
    rcases List.mem_cons.1 hm with hm|hm
    ·exact hm
    ·have h4':k∉l.map (·.1):=by simpa using (List.nodup_cons.1 h4).1
     exact absurd (List.mem_map.2 ⟨_,hm,rfl⟩) h4'
   rw[hval]at p2;exact List.Perm.cons_inv (p2.symm.trans h2)
  ·exact(List.nodup_cons.1 (by simpa using h4)).2
theorem Z0j.drop_none{k:Value}(h:Z0j d w b l)(ht:P.underlying t=some (.map kt et))(hk:P.underlying kt=some d)(ty:TypeId)(hkey:IsKey d k)(hm:k∉l.map (·.1)) :
  ∃w',(Builtin.delete_ #[t,kt] ty #[.map (some b),k]).run P w=.ok (.tuple #[]) w'∧Z0j d w' b l∧Only (fun i=>i=b) w w'∧w'.heap.size=w.heap.size:=by
 obtain⟨es,clock,h1,h2,h3,h4,h5⟩:=h;have hks:∀x∈es.toList,IsKey d x.key:=fun x hx=>h3 (x.key,x.val) (h2.mem_iff.1 (List.mem_map.2 ⟨x,hx,rfl⟩))
 rcases findNow_spec hkey es.toList 0 hks with⟨f1,f2⟩|⟨j,e,f1,f2,f3⟩
 ·refine⟨setBlock w b (.map es clock),?_,⟨_,_,(heap_set h1).1,h2,h3,h4,h5⟩,Z0l _ _ _,by simp[setBlock]⟩
  simp[Builtin.delete_,run_underlying ht,MapKept.run_getObj_map h1,run_checkKey hk hkey,run_findKey hk f1,MapKept.run_setObj_map _ h1,Result.andThen,setBlock]
 ·exact absurd ((Z0j.keyMem h2).1 ⟨e,Q4 f2,f3⟩) hm
theorem Z0j.len(h:Z0j d w b l)(ht:P.underlying t=some (.map kt et))(ty:TypeId):(Builtin.len_ #[t] ty #[.map (some b)]).run P w=.ok (.int .i64 l.length) w:=by
 obtain⟨es,clock,h1,h2,_⟩:=h;have e:es.size=l.length:=by simpa using h2.length_eq
 simp[Builtin.len_,run_underlying ht,goInt,MapKept.run_getObj_map h1,Result.andThen,e]
end
section
variable {κ α:Type}[BEq κ][LawfulBEq κ]{d:TypeDesc}{encK:κ→Value}{enc:α→Value}{P:Program}{w w':World}{b:Nat}{L:List (κ×α)}{t kt et:TypeId}
def KMap(d:TypeDesc)(encK:κ→Value)(enc:α→Value)(w:World)(b:Nat)(L:List (κ×α)):Prop:=Z0j d w b (L.map fun p=>(encK p.1,enc p.2))
structure Zf4(d:TypeDesc)(encK:κ→Value):Prop where
 isKey:∀k,IsKey d (encK k)
 inj:∀a b,encK a=encK b→a=b
theorem Z08:Zf4 .string S:=⟨fun _=>trivial,fun _ _ h=>S_inj h⟩
theorem Z0z:Zf4 (.int .i64) I:=⟨fun _=>rfl,fun _ _ h=>by simpa using h⟩
omit [BEq κ] [LawfulBEq κ] in
theorem KMap.perm{L':List (κ×α)}(h:KMap d encK enc w b L)(hp:L.Perm L'):KMap d encK enc w b L':=Z0j.perm h (hp.map _)
omit [BEq κ] [LawfulBEq κ] in
theorem KMap.later{p:Nat→Prop}(h:KMap d encK enc w b L)(ho:Only p w w')(hp:¬p b):KMap d encK enc w' b L:=Z0j.later h ho hp
omit [BEq κ] [LawfulBEq κ] in
theorem KMap.lt(h:KMap d encK enc w b L):b<w.heap.size:=Z0j.lt h
omit [BEq κ] [LawfulBEq κ] in
theorem KMap.made(w:World)(d:TypeDesc)(encK:κ→Value)(enc:α→Value):KMap d encK enc (w.alloc (.map #[] 0)) w.heap.size []:=Z0j.made w d
omit [BEq κ] [LawfulBEq κ] in
theorem KMap.nodup(h:KMap d encK enc w b L):(L.map (·.1)).Nodup:=by
 obtain⟨_,_,_,_,_,h4,_⟩:=h;rw[List.map_map]at h4;have:((fun x:Value×Value=>x.1) ∘ fun p:κ×α=>(encK p.1,enc p.2))=encK ∘ (·.1):=rfl
 rw[this,←List.map_map]at h4;exact List.Pairwise.imp (fun h e=>h (congrArg _ e)) (List.pairwise_map.1 h4)
theorem Z83{k:κ}{x:α}(hn:(L.map (·.1)).Nodup)(h:(k,x)∈L):L.lookup k=some x:=by
 induction L with
 | nil=>cases h
 | cons p L ih=>
  obtain⟨k',x'⟩:=p;rw[List.map_cons,List.nodup_cons]at hn;rcases List.mem_cons.1 h with h|h
  ·cases h;simp[List.lookup]
  ·have:k≠k':=fun e=>hn.1 (e ▸ List.mem_map.2 ⟨_,h,rfl⟩)
   simp[List.lookup,Q3 this,ih hn.2 h]
theorem Z2g{k:κ}{x:α}(h:L.lookup k=some x):(k,x)∈L:=by
 induction L with
 | nil=>cases h
 | cons p L ih=>
  obtain⟨k',x'⟩:=p;by_cases e:k=k'
  ·subst e;simp[List.lookup]at h;subst h;exact .head _
  ·simp[List.lookup,Q3 e]at h;exact .tail _ (ih h)
theorem Z15{k:κ}(h:L.lookup k=none):k∉L.map (·.1):=by
 induction L with
 | nil=>simp
 | cons p L ih=>
  obtain⟨k',x'⟩:=p;by_cases e:k=k'
  ·subst e;simp[List.lookup]at h
  ·rw[List.lookup,Q3 e]at h
   have:=ih h
   intro hc
   rcases List.mem_cons.1 hc with hc|hc
   ·exact e hc
   ·exact this hc
theorem Z21{k:κ}{x:α}(hn:(L.map (·.1)).Nodup)(h:L.lookup k=some x):L.Perm ((k,x) :: L.filter (fun p=>!(p.1==k))):=by
 induction L with
 | nil=>cases h
 | cons p L ih=>
  obtain⟨k',x'⟩:=p;rw[List.map_cons,List.nodup_cons]at hn;by_cases e:k=k'
  ·subst e
   simp[List.lookup]at h
   subst h;have:L.filter (fun p=>!(p.1==k))=L:=List.filter_eq_self.2 fun p hp=>by
    have:p.1≠k:=fun e=>hn.1 (e ▸ List.mem_map.2 ⟨_,hp,rfl⟩)
    simpa using this
   rw[List.filter_cons_of_neg (by simp),this]
  ·simp[List.lookup,Q3 e]at h
   have h1:=ih hn.2 h;have:(((k',x') :: L).filter fun p=>!(p.1==k))=(k',x') :: L.filter fun p=>!(p.1==k):=by simp[Ne.symm e]
   rw[this];exact(h1.cons _).trans (List.Perm.swap _ _ _)
theorem Z19{k:κ}(h:L.lookup k=none):L.filter (fun p=>!(p.1==k))=L:=by
 refine List.filter_eq_self.2 fun p hp=>?_
 have:p.1≠k:=fun e=>Z15 h (e ▸ List.mem_map.2 ⟨_,hp,rfl⟩)
 simpa using this
omit [BEq κ] [LawfulBEq κ] in
theorem KMap.keyNot(K:Zf4 d encK){k:κ}(hm:k∉L.map (·.1)):encK k∉(L.map fun p=>(encK p.1,enc p.2)).map (·.1):=by
 intro h
 simp only[List.map_map,List.mem_map,Function.comp]at h;obtain⟨p,hp,e⟩:=h;exact hm (List.mem_map.2 ⟨p,hp,K.inj _ _ e⟩)
theorem KMap.look(K:Zf4 d encK)(h:KMap d encK enc w b L)(ht:P.underlying t=some (.map kt et))(hk:P.underlying kt=some d){z:Value}(hz:(zeroValue et).run P w=.ok z w)(k:κ) :
  (Instr.lookup t (.map (some b)) (encK k) true).run P w=.ok (.tuple #[(match L.lookup k with|some x=>enc x|none=>z),.bool (L.lookup k).isSome]) w:=by
 cases hl:L.lookup k with
 | none=>exact Z0j.look_miss h ht hk hz (K.isKey k) (KMap.keyNot K (Z15 hl)) true
 | some x=>exact Z0j.look_hit h ht hk (K.isKey k) (List.mem_map.2 ⟨_,Z2g hl,rfl⟩) true
theorem KMap.look1(K:Zf4 d encK)(h:KMap d encK enc w b L)(ht:P.underlying t=some (.map kt et))(hk:P.underlying kt=some d){z:Value}(hz:(zeroValue et).run P w=.ok z w)(k:κ) :
  (Instr.lookup t (.map (some b)) (encK k) false).run P w=.ok (match L.lookup k with|some x=>enc x|none=>z) w:=by
 cases hl:L.lookup k with
 | none=>exact Z0j.look_miss h ht hk hz (K.isKey k) (KMap.keyNot K (Z15 hl)) false
 | some x=>exact Z0j.look_hit h ht hk (K.isKey k) (List.mem_map.2 ⟨_,Z2g hl,rfl⟩) false
theorem KMap.store(K:Zf4 d encK)(h:KMap d encK enc w b L)(ht:P.underlying t=some (.map kt et))(hk:P.underlying kt=some d)(k:κ)(x:α) :
  ∃w',(Instr.mapUpdate t (.map (some b)) (encK k) (enc x)).run P w=.ok () w'∧KMap d encK enc w' b ((k,x) :: L.filter (fun p=>!(p.1==k)))∧Only (fun i=>i=b) w w'∧w'.heap.size=w.heap.size:=by
 cases hl:L.lookup k with
 | none=>
  rw[Z19 hl];exact Z0j.store_new h ht hk (enc x) (K.isKey k) (KMap.keyNot K (Z15 hl))
 | some x0=>
  have h':=Z0j.perm h ((Z21 (KMap.nodup h) hl).map _)
  exact Z0j.store_old h' ht hk (enc x)
theorem KMap.drop(K:Zf4 d encK)(h:KMap d encK enc w b L)(ht:P.underlying t=some (.map kt et))(hk:P.underlying kt=some d)(k:κ)(ty:TypeId) :
  ∃w',(Builtin.delete_ #[t,kt] ty #[.map (some b),encK k]).run P w=.ok (.tuple #[]) w'∧KMap d encK enc w' b (L.filter (fun p=>!(p.1==k)))∧Only (fun i=>i=b) w w'∧w'.heap.size=w.heap.size:=by
 cases hl:L.lookup k with
 | none=>
  rw[Z19 hl];exact Z0j.drop_none h ht hk ty (K.isKey k) (KMap.keyNot K (Z15 hl))
 | some x0=>
  have h':=Z0j.perm h ((Z21 (KMap.nodup h) hl).map _)
  exact Z0j.drop_old h' ht hk ty
end
end Go.Proofs.YtnmhaipjfpongacGreatDoor
namespace Go.Proofs.YtnmhaipjfpongacGreatDoor
open Go.RowKit Go.Extern.Stop Go.Stop Go.Extern
theorem Za2(v:Value)(w:World):(Extern.ReflectliteType.typeOf #[.iface 390 v]).run Tryz.prog w=.ok (.iface 326 (.agg #[.pointer (some ⟨26,390,none⟩)])) w:=by kernel_rfl
theorem Z4p(w:World):(callFunc 372 #[.agg #[.pointer (some ⟨26,390,none⟩)]]).run Tryz.prog w=.ok (.value (.bool true)) w:=by kernel_rfl
theorem Z27(v:Value)(w:World):(Go.method 529 326 v "Comparable").run Tryz.prog w=.ok (372,v) w:=by kernel_rfl
theorem Zki:(Tryz.prog.info? 390).map (·.comparable)=some true:=by kernel_rfl
theorem Zkh:(Tryz.prog.info? 392).map (·.size)=some 1:=by kernel_rfl
theorem noIsE(v:Value)(xT:TypeId)(w:World):(Instr.typeAssert (.iface 390 v) xT 337 true).run Tryz.prog w=.ok (.tuple #[.nilIface,.bool false]) w:=run_typeAssert_lacksB Tryz.underlying337 (by kernel_rfl) (by kernel_rfl) v xT w
theorem Z7z(v:Value)(xT:TypeId)(w:World):(Instr.typeAssert (.iface 390 v) xT 333 true).run Tryz.prog w=.ok (.tuple #[.nilIface,.bool false]) w:=run_typeAssert_lacksB Tryz.underlying333 (by kernel_rfl) (by kernel_rfl) v xT w
theorem Z6l(v:Value)(xT:TypeId)(w:World):(Instr.typeAssert (.iface 390 v) xT 335 true).run Tryz.prog w=.ok (.tuple #[.nilIface,.bool false]) w:=run_typeAssert_lacksB Tryz.underlying335 (by kernel_rfl) (by kernel_rfl) v xT w
theorem noIsW(v:Value)(xT:TypeId)(w:World):(Instr.typeAssert (.iface 226 v) xT 337 true).run Tryz.prog w=.ok (.tuple #[.nilIface,.bool false]) w:=run_typeAssert_lacksB Tryz.underlying337 (by kernel_rfl) (by kernel_rfl) v xT w
theorem Zd2(v:Value)(xT:TypeId)(w:World):(Instr.typeAssert (.iface 226 v) xT 333 true).run Tryz.prog w=.ok (.tuple #[.iface 226 v,.bool true]) w:=run_typeAssert_hasB Tryz.underlying333 (by kernel_rfl) v xT w
theorem Z9j(v:Value)(w:World):(Go.method 529 226 v "Unwrap").run Tryz.prog w=.ok (366,v) w:=by kernel_rfl
theorem is_same(a:Addr)(w:World) :
  Calls Tryz.prog 169 #[.iface 390 (.pointer (some a)),.iface 390 (.pointer (some a))] w fun e w'=>e=.returned (.bool true)∧w'=w:=by
 obtain⟨i,hi,hcmp⟩:=Option.map_eq_some_iff.1 Zki;obtain⟨j,hj,hjs⟩:=Option.map_eq_some_iff.1 Zkh;have h8:=@run_callFunc_extern Tryz.prog 218 _ Extern.ReflectliteType.typeOf Tryz.func218 (by kernel_rfl) (by kernel_rfl) (by kernel_rfl) (by kernel_rfl)
 have tT:=Za2;have cT:=Z4p;have mR:=Z27;have heq:=run_eql_iface_ptr_same (P:=Tryz.prog) w a Tryz.underlying32 Tryz.underlying390 hi hcmp hj;go_enter Tryz.func169,Tryz.ntmps169;go_wp2;refine wp_loop_rounds 1 ?_;rw[rounds_succ];go_wp2;go_ret;exact⟨rfl,rfl⟩
theorem is_other(a b:Addr)(ca cb:Array Value)(ta tb:TypeId)(w:World)(hne:a≠b)(ha:w.heap[a.block]?=some (.cells ca ta (0,0)))(hb:w.heap[b.block]?=some (.cells cb tb (0,0))) :
  Calls Tryz.prog 169 #[.iface 390 (.pointer (some a)),.iface 390 (.pointer (some b))] w fun e w'=>e=.returned (.bool false)∧w'=w:=by
 obtain⟨i,hi,hcmp⟩:=Option.map_eq_some_iff.1 Zki;obtain⟨j,hj,hjs⟩:=Option.map_eq_some_iff.1 Zkh;have h8:=@run_callFunc_extern Tryz.prog 218 _ Extern.ReflectliteType.typeOf Tryz.func218 (by kernel_rfl) (by kernel_rfl) (by kernel_rfl) (by kernel_rfl)
 have tT:=Za2;have cT:=Z4p;have mR:=Z27;have nE:=noIsE;have uE:=Z7z;have vE:=Z6l;have heq:=run_eql_iface_ptr_other (P:=Tryz.prog) w Tryz.underlying32 Tryz.underlying390 hi hcmp hj (by rw[hjs];decide) hne ha hb
 go_enter Tryz.func169,Tryz.ntmps169
 go_wp2
 refine wp_loop_rounds 1 ?_;rw[rounds_succ];go_wp2;go_ret;exact⟨rfl,rfl⟩
theorem Ze8(pb:Nat)(b:Addr)(w:World)(h1:w.cell? ⟨pb,1,none⟩=some (.iface 390 (.pointer (some b)))) :
  Calls Tryz.prog 169 #[.iface 226 (.pointer (some ⟨pb,0,none⟩)),.iface 390 (.pointer (some b))] w fun e w'=>e=.returned (.bool true)∧w'=w:=by
 obtain⟨i,hi,hcmp⟩:=Option.map_eq_some_iff.1 Zki;obtain⟨j,hj,hjs⟩:=Option.map_eq_some_iff.1 Zkh;have h8:=@run_callFunc_extern Tryz.prog 218 _ Extern.ReflectliteType.typeOf Tryz.func218 (by kernel_rfl) (by kernel_rfl) (by kernel_rfl) (by kernel_rfl)
 have tT:=Za2;have cT:=Z4p;have mR:=Z27;have nE:=noIsE;have uE:=Z7z;have vE:=Z6l;have nW:=noIsW;have uW:=Zd2;have mU:=Z9j;have heq:=run_eql_iface_ptr_same (P:=Tryz.prog) w b Tryz.underlying32 Tryz.underlying390 hi hcmp hj;have hty:=run_eql_iface_types (P:=Tryz.prog) 226 390 (.pointer (some ⟨pb,0,none⟩)) (.pointer (some b)) Tryz.underlying32 (by decide) w
 go_enter Tryz.func169,Tryz.ntmps169
 go_wp2
 refine wp_loop_rounds 2 ?_;rw[rounds_succ];go_wp2;rw[rounds_succ];go_wp2;go_ret;exact⟨rfl,rfl⟩
theorem Zc2(pb:Nat)(b a:Addr)(ca cb:Array Value)(ta tb:TypeId)(w:World)(h1:w.cell? ⟨pb,1,none⟩=some (.iface 390 (.pointer (some a))))(hne:a≠b)(ha:w.heap[a.block]?=some (.cells ca ta (0,0)))(hb:w.heap[b.block]?=some (.cells cb tb (0,0))) :
  Calls Tryz.prog 169 #[.iface 226 (.pointer (some ⟨pb,0,none⟩)),.iface 390 (.pointer (some b))] w fun e w'=>e=.returned (.bool false)∧w'=w:=by
 obtain⟨i,hi,hcmp⟩:=Option.map_eq_some_iff.1 Zki;obtain⟨j,hj,hjs⟩:=Option.map_eq_some_iff.1 Zkh;have h8:=@run_callFunc_extern Tryz.prog 218 _ Extern.ReflectliteType.typeOf Tryz.func218 (by kernel_rfl) (by kernel_rfl) (by kernel_rfl) (by kernel_rfl)
 have tT:=Za2;have cT:=Z4p;have mR:=Z27;have nE:=noIsE;have uE:=Z7z;have vE:=Z6l;have nW:=noIsW;have uW:=Zd2;have mU:=Z9j;have heq:=run_eql_iface_ptr_other (P:=Tryz.prog) w Tryz.underlying32 Tryz.underlying390 hi hcmp hj (by rw[hjs];decide) hne ha hb
 have hty:=run_eql_iface_types (P:=Tryz.prog) 226 390 (.pointer (some ⟨pb,0,none⟩)) (.pointer (some b)) Tryz.underlying32 (by decide) w
 go_enter Tryz.func169,Tryz.ntmps169
 go_wp2
 refine wp_loop_rounds 2 ?_;rw[rounds_succ];go_wp2;rw[rounds_succ];go_wp2;go_ret;exact⟨rfl,rfl⟩
end Go.Proofs.YtnmhaipjfpongacGreatDoor
namespace Go.Proofs.YtnmhaipjfpongacGreatDoor
open Go.ChangeShapes Go.WideShapes Go.ChangeAt Go.RowKit
def RdS{α:Type}(n:Nat)(enc:α→List Value)(w:World)(v:Value)(l:List α):Prop:=
 ∃a cap,v=.slice a l.length cap∧l.length≤cap∧cap≤maxLen∧(l≠[]→∃b off,a=some ⟨b,off,none⟩∧∀i x,l[i]?=some x→∀j u,(enc x)[j]?=some u→w.cell? ⟨b,off+i*n+j,none⟩=some u)
theorem RdS.nil{α:Type}(n:Nat)(enc:α→List Value)(w:World):RdS n enc w (.slice none 0 0) []:=⟨none,0,rfl,Nat.le_refl _,Nat.zero_le _,fun h=>absurd rfl h⟩
theorem Z8b{α:Type}{enc:α→List Value}{n:Nat}(hn:∀x,(enc x).length=n):∀l:List α,(l.flatMap enc).length=l.length*n
 | []=>by simp
 | y :: l=>by rw[List.flatMap_cons,List.length_append,hn,Z8b hn l,List.length_cons,Nat.succ_mul,Nat.add_comm]
theorem Zeb{α:Type}{enc:α→List Value}{n:Nat}(hn:∀x,(enc x).length=n):∀(l:List α)(i:Nat)(x:α),l[i]?=some x→∀j u,(enc x)[j]?=some u→(l.flatMap enc)[i*n+j]?=some u
 | [],i,x,h,_,_,_=>by simp at h
 | y :: l,0,x,h,j,u,hu=>by
  have hy:y=x:=by simpa using h
  subst hy;have hj:j<(enc y).length:=(Q2 hu).1;rw[List.flatMap_cons,Nat.zero_mul,Nat.zero_add,List.getElem?_append_left hj,hu]
 | y :: l,i+1,x,h,j,u,hu=>by
  have h':l[i]?=some x:=by simpa using h
  have:=Zeb hn l i x h' j u hu
  have e:(i+1)*n+j-(enc y).length=i*n+j:=by rw[hn,Nat.succ_mul];omega
  rw[List.flatMap_cons,List.getElem?_append_right (by rw[hn,Nat.succ_mul];omega),e,this]
theorem RdS.of_row{α:Type}{n:Nat}{enc:α→List Value}(hn:∀x,(enc x).length=n){w:World}{base:Nat}{e:TypeId}{v:Value}{l:List α}(h:w.ownsRow base e n v l.length (l.flatMap enc)):RdS n enc w v l:=by
 obtain⟨h1,h2⟩:=h;rcases h2 with⟨rfl,h2⟩|⟨g,cap,cur,rfl,hg,hh,hc,hm,hs,ht⟩
 ·exact⟨none,0,by rw[h2],by omega,Nat.zero_le _,fun h=>absurd (List.length_eq_zero_iff.1 h2) h⟩
 ·refine⟨_,cap,rfl,hc,hm,fun _=>⟨g,0,rfl,fun i x hx j u hu=>?_⟩⟩
  have hf:=Zeb hn l i x hx j u hu;have hlt:=(Q2 hf).1;rw[h1]at hlt;have hcell:cur[i*n+j]?=(cur.toList.take (l.length*n))[i*n+j]?:=by rw[List.getElem?_take_of_lt hlt];simp
  rw[ht,hf]at hcell;rw[Nat.zero_add];simp[World.cell?,hh,hcell]
theorem RdS.later{α:Type}{n:Nat}{enc:α→List Value}{w w':World}{v:Value}{l:List α}(h:RdS n enc w v l){p:Nat→Prop}(ho:Only p w w')(hp:∀k,v.ownBlock=some k→¬p k):RdS n enc w' v l:=by
 obtain⟨a,cap,rfl,h1,h2,h3⟩:=h;refine⟨a,cap,rfl,h1,h2,fun hl=>?_⟩
 obtain⟨b,off,rfl,hc⟩:=h3 hl;exact⟨b,off,rfl,fun i x hx j u hu=>ho.cellOf (hc i x hx j u hu) (hp b rfl)⟩
theorem RdS.ext{α:Type}{n:Nat}{enc:α→List Value}{w w':World}{v:Value}{l:List α}(h:RdS n enc w v l)(ho:Ext w w'):RdS n enc w' v l:=h.later ho fun _ _ h=>h
theorem RdS.tail{α:Type}{n:Nat}{enc:α→List Value}{w:World}{b off cap:Nat}{x:α}{l:List α}(h:RdS n enc w (.slice (some ⟨b,off,none⟩) (l.length+1) cap) (x :: l))(b' off':Nat)(hb:l≠[]→b'=b∧off'=off+n):RdS n enc w (.slice (some ⟨b',off',none⟩) l.length (cap-1)) l:=by
 obtain⟨a,cap',hv,h1,h2,h3⟩:=h;cases hv;refine⟨_,_,rfl,by simp at h1;omega,by omega,fun hl=>?_⟩
 obtain⟨b0,off0,he,hc⟩:=h3 (by simp)
 cases he;obtain⟨rfl,rfl⟩:=hb hl;refine⟨_,_,rfl,fun i y hy j u hu=>?_⟩
 have:=hc (i+1) y (by simpa using hy) j u hu
 rw[Nat.succ_mul]at this;rw[show off+n+i*n+j=off+(i*n+n)+j by omega]
 exact this
theorem Zpt(W:World)(cs:Array Value)(e:TypeId):∀j u,cs.toList[j]?=some u→(W.alloc (.cells cs e (0,0))).cell? ((⟨W.heap.size,0,none⟩:Addr).add j)=some u:=
 World.news_of_block (MapKept.heap_alloc W (.cells cs e (0,0))).1
theorem Z14{P:Program}{α:Type}(enc:α→List Value)(t e:TypeId)(n by_:Nat)(z:Value)(hinfo:(P.info? e).map (fun i=>(i.zero,i.size,i.bytes))=some (some z,n,by_))(ht:P.underlying t=some (.slice e))(hzs:z.cells.size=n)(hn0:0<n)
  (hlen:∀x,(enc x).length=n) (h1c:∀x,∀u∈enc x,u.oneCell'=true) (hby:by_≤1000)
  {ops:Array Oper} {rest:List Oper} {o:Oper} {a:Act} {Q:Exit→Act→World→Prop} (s x:Operand) (base:Nat) (v:Value) (l:List α) (k:α) (W:World) (cs:Array Value) (hcs:cs.toList=enc k) (hgd:o.guard=none)
  (ho:o.op=.call { callee:=.builtin .append,args:=#[s,x],argTypes:=#[t,t] }) (hs:a.eval s=v) (hx:a.eval x=.slice (some ⟨W.heap.size,0,none⟩) 1 1)
  (hrow:W.ownsRow base e n v l.length (l.flatMap enc)) (hl:l.length≤1000000) (hbase:base≤W.heap.size)
  (hK:∀g cap w',w'.ownsRow base e n (.slice (some ⟨g,0,none⟩) (l.length+1) cap) (l.length+1) ((l++[k]).flatMap enc)→W.grownBy w' v.ownBlock→(∀i,Value.ownBlock (.slice (some ⟨g,0,none⟩) (l.length+1) cap)=some i→v.ownBlock=some i∨W.heap.size≤i)→
   wpList P ops Q rest (a.put o.dst (.slice (some ⟨g,0,none⟩) (l.length+1) cap)) w') :
  wpList P ops Q (o :: rest) a (W.alloc (.cells cs e (0,0))):=by
 obtain⟨i0,hi,hz0,hz1,hz2⟩:=info_parts hinfo;have hb:(l.length+1)*by_≤1000001*1000:=Nat.mul_le_mul (by omega) hby
 refine wpList_append_lies _ hgd s x t ho base e i0 z n by_ ht hi hz0 hz1 hz2 hzs hn0 v l.length (l.flatMap enc) hs (hrow.alloc _) ⟨W.heap.size,0,none⟩ 1 1 (enc k) hx (by rw[hlen,Nat.one_mul])
  (fun j u hu=>Zpt W cs e j u (by rw[hcs];exact hu)) (h1c k) (by decide) ?_ ?_ ?_ (W.heap.size+1) (by simp) ?_
 ·unfold maxLen;omega
 ·omega
 ·simp;omega
 ·intro g cap w' hown hg hat hlt
  refine hK g cap w' (by simpa using hown) ?_ ?_
  ·exact((Only.alloc (fun i=>v.ownBlock=some i) W _).then (Only.of_grown hg)).grown
  ·intro i e
   cases e;rcases hat with h|h
   ·exact .inl h
   ·exact .inr (by rw[h];exact Nat.le_succ _)
variable {H:Type}{enc:TypeId×Value→H}
theorem Zj2{a:Assume}{C:Checked}{os:Os}{f:FuncId}{fn:Func}{s:ChangeSpec}{conds:List PathCond}{apart fresh handsOn again:Bool}{X:World→Array Value→Prop}
  (hX:∀(w w':World)(args:Array Value),w.heap=w'.heap→X w args→X w' args) (own:ownKnob C.prog.godebug=none) (started:os.Started) (noInit:C.prog.inits.idxOf? f=none) (hfn:C.prog.funcs[f]?=some fn)
  (witness:∃(w:World)(tape:Tape)(i:Input),w.os=os∧(w.forCall tape i).Shaped C.prog∧i.vars=[]∧Input.okWide C.prog (w.forCall tape i) .any w.heap.size f i∧
   ((s.pre enc C.prog fn conds apart (w.forCall tape i).memory i.args∧X (w.forCall tape i).memory i.args)∧sizedMet enc C.prog fn (OpenSpec.ofChange s) apart (w.forCall tape i).memory i.args)∧a.holds C.prog (lone (Frame.enter C.prog f i.args .normal) [] (w.forCall tape i)))
  (contract:∀(W:World)(base:Nat)(args:Array Value) (ds gs:List (DataW H)) (before:List MemPlace),
   (∀(j:Nat) t v,fn.params[j]?=some t→args[j]?=some v→Value.okWide C.prog W .any base t v)→DataW.Whole enc C.prog fn.params.toList s.vars apart W args.toList ds gs before→
   conds.all (PathCond.test C.prog ⟨fn.params.toList,ds,s.plain.varTypes C.prog,gs⟩)=true→(DataW.weightsEach C.prog (fn.params.toList++s.plain.varTypes C.prog) (ds++gs)).all (·≤reachBytes)=true→
   X W args→W.ShapedOpen C.prog→a.holds C.prog (lone (Frame.enter C.prog f args .normal) [] W)→
   Calls C.prog f args W fun e W'=>∃v,e=.returned v∧s.post enc C.prog fn apart fresh handsOn again W args v W') :
  ReturnsInHanded a C os f .any (fun w args=>(s.pre enc C.prog fn conds apart w args∧X w args)∧sizedMet enc C.prog fn (OpenSpec.ofChange s) apart w args) (s.post enc C.prog fn apart fresh handsOn again):=by
 refine returnsInHanded_of_calls own started noInit witness fun w tape i _ hsh _ hok hpre hh=>?_
 obtain⟨_,_,_,fn',hfn',_,_,_,_,hval⟩:=hok;obtain rfl:=Option.some.inj (hfn'.symm.trans hfn);obtain⟨⟨⟨ds,gs,before,hw,hc⟩,hx⟩,hz⟩:=hpre;have hw':=DataW.Whole.of_heap (w':=w.forCall tape i) (by rfl) hw
 refine(contract _ w.heap.size i.args ds gs before hval hw' hc (hz.weights hw) (hX _ _ _ (by rfl) hx) hsh hh).mono ?_
 rintro e W' ⟨v,rfl,hp⟩;exact ChangeSpec.post_blind hp
theorem Zgl{P:Program}{w0:World}{laid:List (String×DataW Unit)}(args:Array Value)(hf:w0.layFits P laid []=true)(hi:w0.layIfaces P laid (w0.layVars P laid)=true) :
  laidMet P laid ((w0.layVars P laid).forCall (fun _ _=>0) ⟨#[],args,[]⟩).memory:=by
 have hin:∀x∈laid,(laid.map (·.1)).contains x.1=true:=fun x hx=>List.contains_iff_mem.2 (List.mem_map.2 ⟨x,hx,rfl⟩)
 have e1:(laid.filter fun x=>(laid.map (·.1)).contains x.1)=laid:=List.filter_eq_self.2 hin
 have e2:(laid.filter fun x=>!(laid.map (·.1)).contains x.1)=[]:=List.filter_eq_nil_iff.2 fun x hx=>by rw[hin x hx];simp
 have h:laidMet P laid (w0.layVars P laid):=laidMet_layVars (laid.map (·.1)) [] (by rw[e1]) (by rw[e1];exact hf) (by rw[e1];exact hi) (by rw[e2];exact LaidIn.none)
 exact h.of_heap (by simp[World.memory,World.forCall,Input.heap])
def Z81(L:Array Bool)(s:List Nat):Array Bool:=s.foldl (fun L i=>L.setIfInBounds i true) L
def Z67(ops:Array Oper)(i:Nat):Option Tmp:=(ops[i]?).bind (·.dst)
def Z9t(ops:Array Oper)(a:Act)(s:List (Nat×Value)):Act:=s.foldl (fun a p=>a.put (Z67 ops p.1) p.2) a
def subsL:List Nat→List (List Nat)
 | []=>[[]]
 | x :: l=>subsL l++(subsL l).map (x :: ·)
theorem Zbd(f:Nat→Bool):∀l:List Nat,l.filter f∈subsL l
 | []=>.head _
 | x :: l=>by
  have ih:=Zbd f l;by_cases h:f x=true
  ·rw[List.filter_cons_of_pos h]
   exact List.mem_append_right _ (List.mem_map.2 ⟨_,ih,rfl⟩)
  ·rw[List.filter_cons_of_neg h]
   exact List.mem_append_left _ ih
theorem Z8v:∀{a b:List Nat},a.Nodup→(∀x∈a,x∈b)→a.length≤b.length
 | [],_,_,_=>Nat.zero_le _
 | x :: a,b,h,hs=>by
  rw[List.nodup_cons]at h;have hx:=hs x (.head _);have ih:=Z8v (b:=b.erase x) h.2 fun y hy=>(List.mem_erase_of_ne (fun e=>h.1 (by rw[←e];exact hy))).2 (hs y (.tail _ hy))
  rw[List.length_erase_of_mem hx]at ih;have:=List.length_pos_of_mem hx;rw[List.length_cons];omega
theorem Zoe{a b:List Nat}(ha:a.Nodup)(hb:b.Nodup)(hs:∀x∈a,x∈b)(hl:a.length=b.length):a.Perm b:=
 (List.perm_ext_iff_of_nodup ha hb).2 fun x=>⟨hs x,fun hx=>Classical.byContradiction fun hn=>by
  have:=Z8v (a:=x :: a) (b:=b) (List.nodup_cons.2 ⟨hn,ha⟩) fun y hy=>(List.mem_cons.1 hy).elim (fun e=>by rw[e];exact hx) (hs y)
  rw[List.length_cons]at this;omega⟩
theorem Zgd(s:List Nat):∀(L:Array Bool)(j:Nat),(Z81 L s)[j]?=if j∈s then(L[j]?).map (fun _=>true)else L[j]?:=by
 unfold Z81;induction s with
 | nil=>intro L j;simp
 | cons i s ih=>
  intro L j
  rw[List.foldl_cons,ih,Array.getElem?_setIfInBounds];by_cases hij:i=j
  ·subst hij
   rw[if_pos rfl];by_cases hl:i<L.size
   ·rw[if_pos hl,Array.getElem?_eq_getElem hl]
    by_cases hs:i∈s
    ·rw[if_pos hs,if_pos (.tail _ hs)];first|done|rfl
    ·rw[if_neg hs,if_pos (.head _)];first|done|rfl
   ·rw[if_neg hl,Array.getElem?_eq_none (by omega)]
    by_cases hs:i∈s
    ·rw[if_pos hs,if_pos (.tail _ hs)];first|done|rfl
    ·rw[if_neg hs,if_pos (.head _)];first|done|rfl
  ·rw[if_neg hij]
   by_cases hs:j∈s
   ·rw[if_pos hs,if_pos (.tail _ hs)]
   ·rw[if_neg hs,if_neg (fun h=>(List.mem_cons.1 h).elim (fun e=>hij e.symm) hs)]
theorem Zcv{L:Array Bool}{s t:List Nat}(h:∀j,j∈s↔j∈t):Z81 L s=Z81 L t:=by
 apply Array.ext_getElem?
 intro j
 rw[Zgd,Zgd];by_cases hs:j∈s
 ·rw[if_pos hs,if_pos ((h j).1 hs)]
 ·rw[if_neg hs,if_neg (fun e=>hs ((h j).2 e))]
theorem put_far(a:Act){d e:Option Tmp}(x y:Value)(h:d≠e):(a.put d x).put e y=(a.put e y).put d x:=by
 cases d with
 | none=>cases e <;> rfl
 | some d=>
  cases e with
  | none=>rfl
  | some e=>
   have hde:d≠e:=fun e2=>h (by rw[e2])
   unfold Act.put;simp only[Array.setIfInBounds_comm _ _ hde]
theorem Zlo{ops:Array Oper}{s t:List (Nat×Value)}(h:s.Perm t):∀(a:Act),(s.map fun p=>Z67 ops p.1).Nodup→Z9t ops a s=Z9t ops a t:=by
 unfold Z9t;induction h with
 | nil=>intro a _;rfl
 | cons x _ ih=>
  intro a hn
  rw[List.map_cons,List.nodup_cons]at hn;exact ih _ hn.2
 | swap x y l=>
  intro a hn
  rw[List.map_cons,List.nodup_cons,List.map_cons]at hn;rw[List.foldl_cons,List.foldl_cons,List.foldl_cons,List.foldl_cons];rw[put_far a y.2 x.2 (fun e=>hn.1 (by rw[e];exact .head _))]
 | trans h1 _ ih1 ih2=>
  intro a hn
  rw[ih1 a hn];exact ih2 a (((h1.map _).nodup_iff).1 hn)
theorem Z44{ops:Array Oper}{t:Nat}:∀(s:List (Nat×Value)) (a:Act),(∀p∈s,Z67 ops p.1≠some t)→(Z9t ops a s).eval (.tmp t)=a.eval (.tmp t)
 | [],_,_=>rfl
 | p :: s,a,h=>by
  show (Z9t ops (a.put (Z67 ops p.1) p.2) s).eval (.tmp t)=_
  rw[Z44 s _ fun q hq=>h q (.tail _ hq)]
  have h1:=h p (.head _);cases hd:Z67 ops p.1 with
  | none=>rfl
  | some d=>
   rw[hd]at h1;show (a.tmps.setIfInBounds d p.2).getD t undef=a.tmps.getD t undef
   rw[Array.getD_eq_getD_getElem?,Array.getD_eq_getD_getElem?,Array.getElem?_setIfInBounds_ne (fun e=>h1 (by rw[e]))]
theorem Zbj{ops:Array Oper}{mk:List Nat}{s:List (Nat×Value)}{t:Nat}(hs:∀p∈s,p.1∈mk)(h:(mk.all fun i=>Z67 ops i != some t)=true):∀p∈s,Z67 ops p.1≠some t:=fun p hp=>by
 have:=List.all_eq_true.1 h _ (hs p hp)
 simpa using this
theorem vals_of{s:List (Nat×Value)}{mk:List Nat}(h:(s.map (·.1)).Perm mk)(hn:mk.Nodup):∃f:Nat→Value,s.Perm (mk.map fun i=>(i,f i)):=by
 have hs:(s.map (·.1)).Nodup:=h.nodup_iff.2 hn;refine⟨fun i=>(s.lookup i).getD undef,?_⟩
 have e:s=(s.map (·.1)).map fun i=>(i,(s.lookup i).getD undef):=by
  clear h hn;rw[List.map_map];have key:∀p∈s,((fun i=>(i,(s.lookup i).getD undef)) ∘ fun x:Nat×Value=>x.1) p=p:=fun p hp=>by
   obtain⟨i,v⟩:=p;show (i,(s.lookup i).getD undef)=(i,v)
   rw[Z83 hs hp];rfl
  conv=>lhs;rw[←List.map_id s]
  exact List.map_congr_left fun p hp=>(key p hp).symm
 conv=>lhs;rw[e]
 exact h.map _
section
variable {P:Program}{ops:Array Oper}{Q:Exit→Act→World→Prop}{md:Region.Mode}{S:World→Prop}
def makersOk(md:Region.Mode)(ops:Array Oper)(L0:Array Bool)(mk:List Nat):Bool:=
 (subsL mk).all fun t=>t==mk || ((Region.ready md ops (Z81 L0 t)).all (fun i=>mk.contains i&&!t.contains i)&&!(Region.ready md ops (Z81 L0 t)).isEmpty)
def ApartL(s:List (Nat×Value)):Prop:=∀p∈s,∀q∈s,p.1≠q.1→∀b,p.2.ownBlock=some b→q.2.ownBlock≠some b
theorem Zmb(mk:List Nat)(Φ:Nat→Value→World→Prop)(w0:World)(L0:Array Bool)(a0:Act)(fuel:Nat)(hmk:mk.Nodup)(hok:makersOk md ops L0 mk=true)
  (hst:∀i v w w',Φ i v w→Ext w w'→Φ i v w') (hS:∀w,Ext w0 w→S w)
  (hop:∀i∈mk,∀s:List (Nat×Value),(∀p∈s,p.1∈mk)→∀w,Ext w0 w→∀K:Act→World→Prop,(∀v w',Ext w w'→Φ i v w'→(∀b,v.ownBlock=some b→w.heap.size≤b∧b<w'.heap.size)→K ((Z9t ops a0 s).put (Z67 ops i) v) w')→wpOp P ops Q i K (Z9t ops a0 s) w)
  (hend:∀s:List (Nat×Value),(s.map (·.1)).Perm mk→∀w,Ext w0 w→(∀p∈s,Φ p.1 p.2 w)→ApartL s→wpAnyH P md ops Q S fuel (Z81 L0 mk) (Z9t ops a0 s) w) :
  wpAnyH P md ops Q S (mk.length+fuel) L0 a0 w0:=by
 have canon:∀s:List Nat,(∀i∈s,i∈mk)→Z81 L0 s=Z81 L0 (mk.filter fun i=>s.contains i):=fun s hs=>Zcv fun j=>by
  rw[List.mem_filter];simp only[List.contains_iff_mem];exact⟨fun h=>⟨hs j h,h⟩,fun h=>h.2⟩
 have hall:=List.all_eq_true.1 hok;have key:∀(n:Nat) (s:List (Nat×Value)) (w:World),s.length+n=mk.length→(s.map (·.1)).Nodup→(∀p∈s,p.1∈mk)→Ext w0 w→(∀p∈s,Φ p.1 p.2 w)→ApartL s→(∀p∈s,∀b,p.2.ownBlock=some b→b<w.heap.size)→wpAnyH P md ops Q S (n+fuel) (Z81 L0 (s.map (·.1))) (Z9t ops a0 s) w:=by
  intro n
  induction n with
  | zero=>
   intro s w hl hn hm hx hf hap hlt
   have hsub:∀x∈s.map (·.1),x∈mk:=fun x hx=>by
    obtain⟨p,hp,rfl⟩:=List.mem_map.1 hx;exact hm p hp
   have hlen:(s.map (·.1)).length=mk.length:=by rw[List.length_map];omega
   have hperm:(s.map (·.1)).Perm mk:=Zoe hn hmk hsub hlen;rw[Zcv (s:=s.map (·.1)) (t:=mk) (fun j=>hperm.mem_iff),Nat.zero_add]
   exact hend s hperm w hx hf hap
  | succ n ih=>
   intro s w hl hn hm hx hf hap hlt
   have hsub:∀x∈s.map (·.1),x∈mk:=fun x hx=>by
    obtain⟨p,hp,rfl⟩:=List.mem_map.1 hx;exact hm p hp
   have hc:=hall _ (Zbd (fun i=>(s.map (·.1)).contains i) mk)
   have hnot:¬(mk.filter (fun i=>(s.map (·.1)).contains i))=mk:=fun e=>by
    have hall2:∀i∈mk,i∈s.map (·.1):=fun i hi=>by
     rw[←e]at hi;simpa using (List.mem_filter.1 hi).2
    have h3:=Z8v hmk hall2;rw[List.length_map]at h3;omega
   rw[←canon _ hsub,Bool.or_eq_true,Bool.and_eq_true,List.all_eq_true]at hc;have hc2:=hc.resolve_left (fun e=>hnot (by simpa using e))
   obtain⟨h1,h2⟩:=hc2;have hne:Region.ready md ops (Z81 L0 (s.map (·.1)))≠[]:=fun e=>by
    rw[e]at h2;cases h2
   rw[show n+1+fuel=(n+fuel)+1 by omega]
   refine wpAnyH_all rfl hne fun i hi=>?_
   have h3:=h1 i hi;rw[Bool.and_eq_true]at h3;have him:i∈mk:=by simpa using h3.1
   have hns:i∉s.map (·.1):=fun hm2=>by
    have h4:=h3.2;rw[Bool.not_eq_true']at h4;have:(mk.filter fun i=>(s.map (·.1)).contains i).contains i=true:=by
     rw[List.contains_iff_mem,List.mem_filter];exact⟨him,by simpa using hm2⟩
    rw[this]at h4;cases h4
   refine hop i him s hm w hx _ fun v w' hx' hv hfr=>⟨hS w' (hx.then hx'),?_⟩
   have h5:=ih (s++[(i,v)]) w' (by rw[List.length_append,List.length_singleton];omega) (by
    rw[List.map_append,List.map_cons,List.map_nil];exact List.nodup_append.2 ⟨hn,by simp,fun a ha b hb e=>by
     rw[List.mem_singleton]at hb;subst hb;subst e;exact hns ha⟩) (fun p hp=>by
    rcases List.mem_append.1 hp with hp|hp
    ·exact hm p hp
    ·rw[List.mem_singleton.1 hp];exact him) (hx.then hx') (fun p hp=>by
    rcases List.mem_append.1 hp with hp|hp
    ·exact hst _ _ _ _ (hf p hp) hx'
    ·rw[List.mem_singleton.1 hp];exact hv) (fun p hp q hq hpq b h1 h2=>by
    rcases List.mem_append.1 hp with hp|hp <;> rcases List.mem_append.1 hq with hq|hq
    ·exact hap p hp q hq hpq b h1 h2
    ·rw[List.mem_singleton.1 hq]at h2
     have:=hlt p hp b h1
     have:=(hfr b h2).1
     omega
    ·rw[List.mem_singleton.1 hp]at h1
     have:=hlt q hq b h2
     have:=(hfr b h1).1
     omega
    ·rw[List.mem_singleton.1 hp,List.mem_singleton.1 hq]at hpq;exact hpq rfl) (fun p hp b h1=>by
    rcases List.mem_append.1 hp with hp|hp
    ·exact Nat.lt_of_lt_of_le (hlt p hp b h1) hx'.size
    ·rw[List.mem_singleton.1 hp]at h1
     exact(hfr b h1).2)
   have e1:Z9t ops a0 (s++[(i,v)])=(Z9t ops a0 s).put (Z67 ops i) v:=by unfold Z9t;rw[List.foldl_append];rfl
   have e2:Z81 L0 ((s++[(i,v)]).map (·.1))=(Z81 L0 (s.map (·.1))).setIfInBounds i true:=by unfold Z81;rw[List.map_append,List.foldl_append];rfl
   rw[e1,e2]at h5;exact h5
 exact key mk.length [] w0 (by simp) (by simp) (fun p hp=>by cases hp) (Only.refl _ _) (fun p hp=>by cases hp) (fun p hp=>by cases hp) (fun p hp=>by cases hp)
theorem Zl5{i:Nat}{o:Oper}{a:Act}{w w':World}{v:Value}{K:Act→World→Prop}(ho:ops[i]?=some o)(hg:o.guard=none)(hr:(execOp a.eval o).run P w=.ok (.value v) w')(hK:K (a.put (Z67 ops i) v) w'):wpOp P ops Q i K a w:=by
 unfold wpOp;rw[ho];have hw:Region.wanted o (yielded ops a.tmps)=true:=by simp[Region.wanted,hg]
 simp only[hw,if_true];refine .inl ?_;unfold Oper.wp;rw[hr,Oper.upon_value];have:Z67 ops i=o.dst:=by unfold Z67;rw[ho];rfl
 rw[←this];exact hK
theorem Znh{i f:Nat}{o:Oper}{a:Act}{w:World}{args:Array Value}{K:Act→World→Prop}{R:Ending→World→Prop}(ho:ops[i]?=some o)(hg:o.guard=none)(hr:(execOp a.eval o).run P w=.ok (.enter f args) w)(hc:Calls P f args w R)
  (hK:∀e w',R e w'→∃v,e=.returned v∧K (a.put (Z67 ops i) v) w'):wpOp P ops Q i K a w:=by
 unfold wpOp;rw[ho];have hw:Region.wanted o (yielded ops a.tmps)=true:=by simp[Region.wanted,hg]
 simp only[hw,if_true];refine .inl ?_;unfold Oper.wp;rw[hr];have:Z67 ops i=o.dst:=by unfold Z67;rw[ho];rfl
 refine Calls.mono hc fun e w' he=>?_
 obtain⟨v,rfl,hk⟩:=hK e w' he;rw[this]at hk;exact hk
theorem Zl6{i f t:Nat}{o:Oper}{a:Act}{w:World}{v:Value}{ts:Array TypeId}{K:Act→World→Prop}{R:Ending→World→Prop}(ho:ops[i]?=some o)(hg:o.guard=none)(hop:o.op=.call { callee:=.value (.func f),args:=#[.tmp t],argTypes:=ts })(hv:a.eval (.tmp t)=v)
  (en:∀w,(callFunc f #[v]).run P w=.ok (.enter f #[v]) w) (hc:Calls P f #[v] w R) (hK:∀e w',R e w'→∃v,e=.returned v∧K (a.put (Z67 ops i) v) w'):wpOp P ops Q i K a w:=by
 refine Znh ho hg ?_ hc hK;unfold execOp;simp only[hop,resolve,List.map_toArray,List.map_cons,List.map_nil,hv];exact en w
theorem Z6g{i t:Nat}{o:Oper}{a:Act}{w w':World}{x v:Value}{T:TypeId}{K:Act→World→Prop}(ho:ops[i]?=some o)(hg:o.guard=none)(hop:o.op=.makeSlice T (.tmp t) (.tmp t))(hv:a.eval (.tmp t)=x)
  (hr:(Instr.makeSlice T x x).run P w=.ok v w') (hK:K (a.put (Z67 ops i) v) w'):wpOp P ops Q i K a w:=by
 refine Zl5 ho hg ?_ hK;unfold execOp;simp only[hop,hv,Sem.run_bind,Sem.run_pure,hr,Result.andThen_ok]
end
end Go.Proofs.YtnmhaipjfpongacGreatDoor
