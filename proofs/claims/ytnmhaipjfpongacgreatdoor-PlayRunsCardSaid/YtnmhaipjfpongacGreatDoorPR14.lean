/- A part of this claim's proof;each theorem bears its own conditions. -/
import Derived.Test.YtnmhaipjfpongacGreatDoorPR13
import Derived.Deep.AppendSrc
import Derived.Deep.Onto
set_option maxRecDepth 100000
set_option maxHeartbeats 4000000
namespace Go.Proofs
open Go.Shelf
def Tryz.lays189_ren:Go.Shelf.Ren:=⟨fun|189=>118|125=>181|257=>184|128=>240|129=>241|294=>243|295=>244|296=>245|297=>246|298=>247|299=>248|216=>249|300=>250|301=>251|328=>295|329=>290|330=>291|331=>296|332=>297|215=>298|343=>318|n=>n,fun|28=>46|3=>3|46=>248|0=>0|51=>307|53=>309|4=>4|183=>301|182=>300|131=>182|5=>5|9=>9|218=>347|222=>351|228=>362|229=>157|n=>n,fun|n=>n⟩
theorem Tryz.lays189:Go.Proofs.Lays.n189 Tryz.prog Tryz.lays189_ren:={
 mixed:=by kernel_rfl
 f125:=Tryz.func181.trans (congrArg some (by kernel_rfl))
 f128:=Tryz.func240.trans (congrArg some (by kernel_rfl))
 f129:=Tryz.func241.trans (congrArg some (by kernel_rfl))
 f189:=Tryz.func118.trans (congrArg some (by kernel_rfl))
 f215:=Tryz.func298.trans (congrArg some (by kernel_rfl))
 f216:=Tryz.func249.trans (congrArg some (by kernel_rfl))
 f257:=Tryz.func184.trans (congrArg some (by kernel_rfl))
 f294:=Tryz.func243.trans (congrArg some (by kernel_rfl))
 f295:=Tryz.func244.trans (congrArg some (by kernel_rfl))
 f296:=Tryz.func245.trans (congrArg some (by kernel_rfl))
 f297:=Tryz.func246.trans (congrArg some (by kernel_rfl))
 f298:=Tryz.func247.trans (congrArg some (by kernel_rfl))
 f299:=Tryz.func248.trans (congrArg some (by kernel_rfl))
 f300:=Tryz.func250.trans (congrArg some (by kernel_rfl))
 f301:=Tryz.func251.trans (congrArg some (by kernel_rfl))
 f328:=Tryz.func295.trans (congrArg some (by kernel_rfl))
 f329:=Tryz.func290.trans (congrArg some (by kernel_rfl))
 f330:=Tryz.func291.trans (congrArg some (by kernel_rfl))
 f331:=Tryz.func296.trans (congrArg some (by kernel_rfl))
 f332:=Tryz.func297.trans (congrArg some (by kernel_rfl))
 f343:=Tryz.func318.trans (congrArg some (by kernel_rfl))
 t0:=Tryz.underlying0
 a0:=Tryz.isAgg0
 z0:=Tryz.sizeOf0
 v0:=Tryz.zeroValue0
 t3:=Tryz.underlying3
 a3:=Tryz.isAgg3
 z3:=Tryz.sizeOf3
 v3:=Tryz.zeroValue3
 t4:=Tryz.underlying4
 a4:=Tryz.isAgg4
 z4:=Tryz.sizeOf4
 v4:=Tryz.zeroValue4
 t5:=Tryz.underlying5
 a5:=Tryz.isAgg5
 z5:=Tryz.sizeOf5
 v5:=Tryz.zeroValue5
 t9:=Tryz.underlying9
 a9:=Tryz.isAgg9
 z9:=Tryz.sizeOf9
 v9:=Tryz.zeroValue9
 t28:=Tryz.underlying46
 a28:=Tryz.isAgg46
 z28:=Tryz.sizeOf46
 v28:=Tryz.zeroValue46
 t46:=Tryz.underlying248
 a46:=Tryz.isAgg248
 z46:=Tryz.sizeOf248
 v46:=Tryz.zeroValue248
 t51:=Tryz.underlying307
 a51:=Tryz.isAgg307
 z51:=Tryz.sizeOf307
 v51:=Tryz.zeroValue307
 t53:=Tryz.underlying309
 a53:=Tryz.isAgg309
 z53:=Tryz.sizeOf309
 v53:=Tryz.zeroValue309
 t131:=Tryz.underlying182
 a131:=Tryz.isAgg182
 z131:=Tryz.sizeOf182
 v131:=Tryz.zeroValue182
 t182:=Tryz.underlying300
 a182:=Tryz.isAgg300
 z182:=Tryz.sizeOf300
 v182:=Tryz.zeroValue300
 t183:=Tryz.underlying301
 a183:=Tryz.isAgg301
 z183:=Tryz.sizeOf301
 v183:=Tryz.zeroValue301
 t218:=Tryz.underlying347
 a218:=Tryz.isAgg347
 z218:=Tryz.sizeOf347
 v218:=Tryz.zeroValue347
 t222:=Tryz.underlying351
 a222:=Tryz.isAgg351
 z222:=Tryz.sizeOf351
 v222:=Tryz.zeroValue351
 t228:=Tryz.underlying362
 a228:=Tryz.isAgg362
 z228:=Tryz.sizeOf362
 v228:=Tryz.zeroValue362
 t229:=Tryz.underlying157
 a229:=Tryz.isAgg157
 z229:=Tryz.sizeOf157
 v229:=Tryz.zeroValue157 }
open Go.Sort Go.RowKit in
theorem Tryz.slices_Sort_int(blk off cap:Nat)(zs:List Int)(w:World)(hH:Holds (Value.int .i64) w blk off zs.toArray)(hblk:blk<w.heap.size)(hsz:zs.length<4611686018427387904) :
  Calls Tryz.prog 118 #[.slice (some ⟨blk,off,none⟩) zs.length cap] w fun e w'=>
   e=.returned (.tuple #[])∧∃n os,w'=grow (putRow (Value.int .i64) (Sort.ahead w n) blk off (zs.mergeSort fun x y=>decide (x≤y)).toArray) os:=Any.slices_Sort_int Tryz.lays189 blk off cap zs w hH hblk hsz
open Go.RowKit Go.Sort in
theorem Tryz.slices_Sort_int_none(p:Option Addr)(cap:Nat)(w:World) :
  Calls Tryz.prog 118 #[.slice p 0 cap] w fun e w'=>e=.returned (.tuple #[])∧w'=w:=Any.slices_Sort_int_none Tryz.lays189 p cap w
end Go.Proofs
namespace Go.Proofs.YtnmhaipjfpongacGreatDoor
open Go.ChangeShapes Go.WideShapes Go.ChangeAt Go.RowKit Go.Sort
def Z0s(w:World)(b:Nat)(e:TypeId)(n:Nat)(f:Nat→Value):Prop:=∃cur,w.heap[b]?=some (.cells cur e (0,0))∧cur.size=n∧∀k,k<n→cur[k]?=some (f k)
theorem Z0s.cell{w:World}{b n:Nat}{e:TypeId}{f:Nat→Value}(h:Z0s w b e n f){k:Nat}(hk:k<n):w.cell? ⟨b,k,none⟩=some (f k):=by
 obtain⟨cur,hh,_,hc⟩:=h;rw[Z00 hh];exact hc k hk
theorem Z0s.free{w:World}{b n:Nat}{e:TypeId}{f:Nat→Value}(h:Z0s w b e n f)(k:Nat):w.frozen? ⟨b,k,none⟩=false:=by
 obtain⟨cur,hh,_⟩:=h;exact Z02 hh k
theorem Z0s.later{w w':World}{b n:Nat}{e:TypeId}{f:Nat→Value}{p:Nat→Prop}(h:Z0s w b e n f)(ho:Only p w w')(hp:¬p b):Z0s w' b e n f:=by
 obtain⟨cur,hh,hs,hc⟩:=h;exact⟨cur,ho.heapOf hh hp,hs,hc⟩
theorem Z0s.ext{w w':World}{b n:Nat}{e:TypeId}{f:Nat→Value}(h:Z0s w b e n f)(ho:Ext w w'):Z0s w' b e n f:=h.later ho (fun h=>h)
theorem Z0s.set{w:World}{b n:Nat}{e:TypeId}{f:Nat→Value}(h:Z0s w b e n f)(k:Nat)(u:Value):Z0s (w.setCell ⟨b,k,none⟩ u) b e n (fun i=>if i=k then u else f i):=by
 obtain⟨cur,hh,hs,hc⟩:=h;refine⟨_,Z01 hh k u,by simpa using hs,fun i hi=>?_⟩
 rw[Array.getElem?_setIfInBounds];show _=some (if i=k then u else f i)
 by_cases he:k=i
 ·subst he
  rw[if_pos rfl,if_pos (by omega),if_pos rfl]
 ·have he2:¬i=k:=fun h=>he h.symm
  rw[if_neg he,if_neg he2];exact hc i hi
theorem Z0s.congr{w:World}{b n:Nat}{e:TypeId}{f g:Nat→Value}(h:Z0s w b e n f)(hfg:∀k,k<n→f k=g k):Z0s w b e n g:=by
 obtain⟨cur,hh,hs,hc⟩:=h;exact⟨cur,hh,hs,fun k hk=>by rw[hc k hk,hfg k hk]⟩
theorem Z0s.lt{w:World}{b n:Nat}{e:TypeId}{f:Nat→Value}(h:Z0s w b e n f):b<w.heap.size:=by
 obtain⟨cur,hh,_⟩:=h;exact Z03 hh
theorem Z0s.made(w:World)(e:TypeId)(n:Nat)(z:Value):Z0s (w.alloc (.cells (Array.replicate n z) e (0,0))) w.heap.size e n (fun _=>z):=
 ⟨_,(MapKept.heap_alloc w _).1,by simp,fun k hk=>by rw[Array.getElem?_replicate,if_pos hk]⟩
abbrev IN(k:Nat):Value:=.int .i64 k
abbrev RowI(base:Nat)(w:World)(v:Value)(l:List Nat):Prop:=w.ownsRow base 3 1 v l.length (l.map IN)
theorem Z8z:(Tryz.prog.info? 3).map (fun i=>(i.zero,i.size,i.bytes))=some (some (.int .i64 0),1,8):=by kernel_rfl
theorem RowI.nil(base:Nat)(w:World):RowI base w (.slice none 0 0) []:=World.ownsRow_nil _ _ _ _
theorem RowI.down{b b':Nat}{w:World}{v:Value}{l:List Nat}(h:RowI b' w v l)(hb:b≤b'):RowI b w v l:=
 ⟨h.1,h.2.imp id fun⟨g,cap,cur,e,hg,r⟩=>⟨g,cap,cur,e,Nat.le_trans hb hg,r⟩⟩
theorem RowI.ext{base:Nat}{w w':World}{v:Value}{l:List Nat}(h:RowI base w v l)(ho:Ext w w'):RowI base w' v l:=ho.row h fun _ _ h=>h
theorem RowI.rd{base:Nat}{w:World}{v:Value}{l:List Nat}(h:RowI base w v l):Rd IN w v l:=Rd.of_row h
theorem RowI.base{base:Nat}{w:World}{v:Value}{l:List Nat}(h:RowI base w v l):∀i,v.ownBlock=some i→base≤i:=fun i hi=>(h.lt i hi).1
theorem RowI.cases{base:Nat}{w:World}{v:Value}{l:List Nat}(h:RowI base w v l):(v=.slice none 0 0∧l=[])∨∃g cap,v=.slice (some ⟨g,0,none⟩) l.length cap:=by
 rcases h.2 with⟨h1,h2⟩|⟨g,cap,_,h1,_⟩
 ·exact .inl ⟨h1,by cases l with
   | nil=>rfl
   | cons x l=>simp at h2⟩
 ·exact .inr ⟨g,cap,h1⟩
theorem Zl7{P:Program}(hP:P=Tryz.prog){ops:Array Oper}{rest:List Oper}{o:Oper}{a:Act}{Q:Exit→Act→World→Prop}(s x:Operand)(w0:World)(base:Nat)(v:Value)(l:List Nat)(k:Nat)(W:World)(hgd:o.guard=none)
  (ho:o.op=.call { callee:=.builtin .append,args:=#[s,x],argTypes:=#[46,46] }) (hs:a.eval s=v) (hx:a.eval x=.slice (some ⟨W.heap.size,0,none⟩) 1 1)
  (hrow:RowI base W v l) (hl:l.length≤1000000) (hbase:base≤W.heap.size) (hxt:Ext w0 W) (hb0:w0.heap.size≤base)
  (hK:∀g cap w',Hid (RowI base w' (.slice (some ⟨g,0,none⟩) (l.length+1) cap) (l++[k]))→Hid (Ext w0 w')→Hid (W.grownBy w' v.ownBlock)→
   wpList P ops Q rest (a.put o.dst (.slice (some ⟨g,0,none⟩) (l.length+1) cap)) w') :
  wpList P ops Q (o :: rest) a (W.alloc (.cells #[IN k] 3 (0,0))):=by
 subst hP;have hf:∀q:List Nat,q.flatMap (fun k=>[IN k])=q.map IN:=fun q=>by induction q with
  | nil=>rfl
  | cons x q ih=>rw[List.flatMap_cons,List.map_cons,ih];rfl
 refine Z14 (fun k:Nat=>[IN k]) 46 3 1 8 _ Z8z Tryz.underlying46 rfl (by decide) (fun _=>rfl) (fun _ u hu=>by cases List.mem_singleton.1 hu;rfl) (by decide) s x base v l k W _ rfl hgd ho hs hx (by rw[hf];exact hrow) hl hbase ?_
 intro g cap w' h1 h2 h3
 rw[hf]at h1;refine hK g cap w' (Q0 ?_) (Q0 (Z55 hxt (fun i hi=>Nat.le_trans hb0 (hrow.base i hi)) h2)) (Q0 h2)
 show World.ownsRow _ _ _ _ _ (l++[k]).length _
 rw[List.length_append];exact h1
def Z7s(l:List Nat):List Nat:=l.mergeSort fun x y=>decide (x≤y)
def InPlaceI(base:Nat)(v r:Value)(l:List Nat)(w:World)(e:Ending)(w':World):Prop:=e=.returned r∧RowI base w' v l∧Only (fun i=>v.ownBlock=some i) w w'
theorem Zns(l:List Nat):(l.map fun k:Nat=>(k:Int)).mergeSort (fun x y=>decide (x≤y))=(Z7s l).map fun k:Nat=>(k:Int):=by
 unfold Z7s;rw[List.map_mergeSort];intro a _ b _;simp
theorem Zfj(w:World)(g n cap base:Nat)(os:Array Obj)(cur:Array Value)(ts:List Int)(hh:w.heap[g]?=some (.cells cur 3 (0,0)))(hb:base≤g)(hl:ts.length≤cap)(hm:cap≤maxLen)(hs:cur.size=cap*1) :
  (grow (putRow (Value.int .i64) (Sort.ahead w n) g 0 ts.toArray) os).ownsRow base 3 1 (.slice (some ⟨g,0,none⟩) ts.length cap) ts.length (ts.map (Value.int .i64))∧
  w.grownBy (grow (putRow (Value.int .i64) (Sort.ahead w n) g 0 ts.toArray) os) (some g):=by
 have hg:g<w.heap.size:=Z03 hh;have hnew:(grow (putRow (Value.int .i64) (Sort.ahead w n) g 0 ts.toArray) os).heap[g]?=some (.cells (putCells (Value.int .i64) 0 ts.toArray cur) 3 (0,0)):=by
  rw[heap_grow_old _ _ (by simpa using hg)]
  simp[putRow,mapBlock,Sort.ahead,Array.getElem?_modify,hh,onCells]
 refine⟨⟨by simp,.inr ⟨g,cap,_,rfl,hb,hnew,hl,hm,by simp[putCells,hs],?_⟩⟩,⟨rfl,rfl,rfl,by simp,fun k hk hne=>?_⟩⟩
 ·rw[Nat.mul_one]
  apply List.ext_getElem?
  intro j
  by_cases hj:j<ts.length
  ·rw[List.getElem?_take_of_lt hj,Array.getElem?_toList]
   simp[putCells,hj,show j<cur.size by omega]
  ·rw[List.getElem?_eq_none (by simp;omega),List.getElem?_eq_none (by simp;omega)]
 ·rw[heap_grow_old _ _ (by simpa using hk)]
  have:g≠k:=fun e=>hne (by rw[e])
  simp[putRow,mapBlock,Sort.ahead,Array.getElem?_modify,this]
theorem Zmr{w:World}{g:Nat}{cur:Array Value}{zs:List Int}(hb:w.heap[g]?=some (.cells cur 3 (0,0)))(ht:cur.toList.take zs.length=zs.map (Value.int .i64)):Holds (Value.int .i64) w g 0 zs.toArray:=by
 intro j hj
 have hj':j<zs.length:=by simpa using hj
 refine⟨?_,Z02 hb _⟩;have h1:(cur.toList.take zs.length)[j]?=(zs.map (Value.int .i64))[j]?:=by rw[ht]
 rw[List.getElem?_take_of_lt hj',Array.getElem?_toList,List.getElem?_map,Q1 hj']at h1;rw[Nat.zero_add,Z00 hb,h1];simp[Q1 hj']
theorem Zfk(w:World)(base:Nat)(v:Value)(l:List Nat)(h:RowI base w v l)(hl:l.length≤1000000) :
  Calls Tryz.prog 118 #[v] w (InPlaceI base v (.tuple #[]) (Z7s l) w):=by
 rcases h.2 with⟨rfl,h0⟩|⟨g,cap,cur,rfl,hb,hh,h1,h2,h3,h4⟩
 ·cases l with
  | cons x l=>simp at h0
  | nil=>
   refine(Tryz.slices_Sort_int_none none 0 w).mono ?_;rintro e w' ⟨rfl,rfl⟩;have e:Z7s []=[]:=List.mergeSort_nil;rw[e];exact⟨rfl,RowI.nil _ _,Only.refl _ _⟩
 ·rw[Nat.mul_one]at h4
  have hm:l.map IN=(l.map fun k:Nat=>(k:Int)).map (Value.int .i64):=by rw[List.map_map];rfl
  rw[hm]at h4;have hc:=Tryz.slices_Sort_int g 0 cap (l.map fun k:Nat=>(k:Int)) w (Zmr hh (by rw[List.length_map];exact h4)) (Z03 hh) (by simp;omega)
  rw[List.length_map]at hc;refine hc.mono ?_;rintro e w' ⟨rfl,n,os,rfl⟩;have hlen:(Z7s l).length=l.length:=List.length_mergeSort _;rw[Zns];obtain⟨r1,r2⟩:=Zfj w g n cap base os cur ((Z7s l).map fun k:Nat=>(k:Int)) hh hb (by simpa [hlen] using h1) h2 h3
  rw[List.length_map,hlen,List.map_map]at r1;refine⟨rfl,?_,(Only.of_grown r2).mono fun i _ e=>e⟩
  show World.ownsRow _ _ _ _ _ (Z7s l).length _
  rw[hlen];exact r1
def RdLL(w:World)(v:Value)(E:List (List Nat)):Prop:=
 ∃a cap,v=.slice a E.length cap∧E.length≤cap∧cap≤maxLen∧(E≠[]→∃b off,a=some ⟨b,off,none⟩∧∀(i:Nat) x,E[i]?=some x→∃u,Rd IN w u x∧w.cell? ⟨b,off+i,none⟩=some u)
def RetLL(E:List (List Nat))(w:World)(e:Ending)(w':World):Prop:=∃v,e=.returned v∧RdLL w' v E∧Ext w w'
def byB(l:List Rule):Nat→B→Option Nat
 | 0,_=>none
 | j+1,s=>if (l[j]?).map Rule.out=some s then some j else byB l j s
theorem Z8k{l:List Rule}(hn:(l.map Rule.out).Nodup):∀{j k:Nat} {s:B},j≤l.length→(byB l j s=some k↔k<j∧(l[k]?).map Rule.out=some s)
 | 0,k,s,_=>by simp[byB]
 | j+1,k,s,hj=>by
  have ih:=Z8k hn (j:=j) (k:=k) (s:=s) (by omega)
  unfold byB;by_cases h:(l[j]?).map Rule.out=some s
  ·rw[if_pos h]
   constructor
   ·intro e;cases e;exact⟨Nat.lt_succ_self _,h⟩
   ·rintro⟨h1,h2⟩
    have:j=k:=Z1r hn (i:=j) (j:=k) (x:=s) (by rw[List.getElem?_map];exact h) (by rw[List.getElem?_map];exact h2)
    rw[this]
  ·rw[if_neg h,ih]
   constructor
   ·rintro⟨h1,h2⟩;exact⟨by omega,h2⟩
   ·rintro⟨h1,h2⟩
    refine⟨?_,h2⟩;rcases Nat.lt_succ_iff_lt_or_eq.1 h1 with h3|rfl
    ·exact h3
    ·exact absurd h2 h
def curB(l:List Rule)(ins:List B):List Nat:=ins.filterMap (byB l l.length)
theorem Zn4{l:List Rule}(hr:Z34 l){i:Nat}{r:Rule}(hi:l[i]?=some r):Z7s (curB l r.ins)=Z24 l.length (Z07 l) i:=by
 have hn:=hr.2.2;have hrc:=hr.2.1 r (Q4 hi);have hnd:r.ins.Nodup:=by
  unfold Z0q at hrc
  repeat' split at hrc
  all_goals first
   | omega
   | (rename_i h;exact Classical.byContradiction fun h2=>h (.inr h2))
   | (exfalso;simp_all;done)
 have hmem:∀k,k∈curB l r.ins↔k∈Z24 l.length (Z07 l) i:=by
  intro k
  rw[Z3l];unfold curB Z07;rw[List.mem_filterMap,hi];constructor
  ·rintro⟨s,hs,hk⟩
   obtain⟨h1,h2⟩:=(Z8k hn (Nat.le_refl _)).1 hk;obtain⟨q,hq,rfl⟩:=Option.map_eq_some_iff.1 h2;refine⟨h1,?_⟩;rw[hq];simpa using hs
  ·rintro⟨h1,h2⟩
   obtain⟨q,hq⟩:∃q,l[k]?=some q:=⟨_,Q1 h1⟩;rw[hq]at h2;exact⟨q.out,by simpa using h2,(Z8k hn (Nat.le_refl _)).2 ⟨h1,by rw[hq];rfl⟩⟩
 have hcn:(curB l r.ins).Nodup:=by
  unfold curB;have key:∀ins:List B,ins.Nodup→(ins.filterMap (byB l l.length)).Nodup:=by
   intro ins
   induction ins with
   | nil=>intro _;exact List.nodup_nil
   | cons s ins ih=>
    intro h
    rw[List.nodup_cons]at h;rw[List.filterMap_cons];split
    ·exact ih h.2
    ·rename_i k hk
     refine List.nodup_cons.2 ⟨fun hm=>?_,ih h.2⟩
     obtain⟨s',hs',hk'⟩:=List.mem_filterMap.1 hm;have h1:=((Z8k hn (Nat.le_refl _)).1 hk).2;have h2:=((Z8k hn (Nat.le_refl _)).1 hk').2;have:s=s':=Option.some.inj (h1.symm.trans h2);exact h.1 (this ▸ hs')
  exact key _ hnd
 have hen:(Z24 l.length (Z07 l) i).Nodup:=List.nodup_range.filter _;have hp:(curB l r.ins).Perm (Z24 l.length (Z07 l) i):=(List.perm_ext_iff_of_nodup hcn hen).2 hmem;have hes:(Z24 l.length (Z07 l) i).Pairwise fun x y=>decide (x≤y)=true:=by
  unfold Z24;refine List.Pairwise.filter _ ?_;exact(List.pairwise_lt_range (n:=l.length)).imp fun h=>decide_eq_true (Nat.le_of_lt h)
 have hss:(Z7s (curB l r.ins)).Pairwise fun x y=>decide (x≤y)=true:=by
  unfold Z7s;refine List.pairwise_mergeSort (le:=fun x y:Nat=>decide (x≤y)) (fun a b c h1 h2=>?_) (fun a b=>?_) _
  ·exact decide_eq_true (Nat.le_trans (of_decide_eq_true h1) (of_decide_eq_true h2))
  ·rcases Nat.le_total a b with h|h
   ·rw[decide_eq_true h];rfl
   ·rw[decide_eq_true h,Bool.or_true]
 exact List.Perm.eq_of_pairwise (fun a b _ _ h1 h2=>Nat.le_antisymm (of_decide_eq_true h1) (of_decide_eq_true h2)) hss hes ((List.mergeSort_perm _ _).trans hp)
theorem Z5h{k s:B}:∀(L:List (B×Nat)),s≠k→(L.filter fun p=>!(p.1==k)).lookup s=L.lookup s
 | [],_=>rfl
 | (a,x) :: L,h=>by
  by_cases ha:a=k
  ·subst ha
   have hs:(s==a)=false:=Q3 h
   rw[List.filter_cons_of_neg (by simp),Z5h L h,List.lookup,hs]
  ·rw[List.filter_cons_of_pos (by simpa using ha)]
   simp only[List.lookup];rw[Z5h L h]
theorem by_step{l:List Rule}{j:Nat}{r:Rule}{L:List (B×Nat)}(hj:l[j]?=some r)(h:∀s,L.lookup s=byB l j s):∀s,((r.out,j) :: L.filter fun p=>!(p.1==r.out)).lookup s=byB l (j+1) s:=by
 intro s
 unfold byB;rw[hj];by_cases e:s=r.out
 ·subst e
  rw[if_pos (by rfl)]
  simp[List.lookup]
 ·rw[if_neg (by simpa using fun h=>e h.symm)]
  have hs:(s==r.out)=false:=Q3 e
  rw[List.lookup,hs];simp only;rw[Z5h L e,h]
end Go.Proofs.YtnmhaipjfpongacGreatDoor
namespace Go.Proofs.YtnmhaipjfpongacGreatDoor
open Go.ChangeShapes Go.WideShapes Go.ChangeAt Go.RowKit
def QI(base:Nat)(w:World)(v:Value)(l:List Nat):Prop:=
 ∃ao b off cap,v=.slice ao l.length cap∧cap≤maxLen∧(0<cap→base≤b)∧Came w 1 ao b off l.length cap (l.map IN)
theorem QI.of_row{base:Nat}{w:World}{v:Value}{l:List Nat}(h:RowI base w v l):QI base w v l:=by
 rcases h.2 with⟨rfl,h0⟩|⟨g,cap,cur,rfl,hb,hh,h1,h2,h3,h4⟩
 ·cases l with
  | cons x l=>simp at h0
  | nil=>exact⟨none,0,0,0,rfl,Nat.zero_le _,fun h=>by omega,⟨Nat.le_refl _,fun h=>by omega,fun h=>by omega,rfl,fun j u h=>by simp at h,fun j h=>by simp at h⟩⟩
 ·rw[Nat.mul_one]at h4
  refine⟨_,g,0,cap,rfl,h2,fun _=>hb,⟨h1,fun _=>rfl,fun _=>Z03 hh,by simp,fun j u hj=>?_,fun j hj=>?_⟩⟩
  ·rw[Nat.zero_add,Z00 hh]
   have hlt:j<l.length:=by have:=(Q2 hj).1;simpa using this
   have:(cur.toList.take l.length)[j]?=(l.map IN)[j]?:=by rw[h4]
   rw[List.getElem?_take_of_lt hlt,Array.getElem?_toList]at this;rw[this,hj]
  ·rw[Nat.mul_one]at hj
   rw[Nat.zero_add,Nat.mul_one];refine⟨?_,Z02 hh _⟩;rw[Z00 hh,Array.getElem?_eq_getElem (by rw[h3];omega)]
   rfl
theorem QI.later{base:Nat}{w w':World}{v:Value}{l:List Nat}{p:Nat→Prop}(h:QI base w v l)(ho:Only p w w')(hp:∀b,p b→b<base):QI base w' v l:=by
 obtain⟨ao,b,off,cap,rfl,h1,h2,hc⟩:=h;have hn:0<cap→¬p b:=fun h e=>by have:=hp b e;have:=h2 h;omega
 refine⟨ao,b,off,cap,rfl,h1,h2,⟨hc.le,hc.addr,fun h=>Nat.lt_of_lt_of_le (hc.lt h) ho.size,hc.oldsLen,fun j u hj=>?_,fun j hj=>?_⟩⟩
 ·have hlt:=(Q2 hj).1
  have hle:=hc.le;rw[List.length_map]at hlt;exact ho.cellOf (hc.olds j u hj) (hn (by omega))
 ·have hcap:0<cap:=by rw[Nat.mul_one]at hj;omega
  obtain⟨c1,c2⟩:=hc.spare j hj;obtain⟨u,hu⟩:=Option.isSome_iff_exists.1 c1;exact⟨by rw[ho.cellOf hu (hn hcap)];rfl,(ho.frozen (a:=⟨b,off+l.length*1+j,none⟩) (hc.lt hcap) (hn hcap)).trans c2⟩
theorem QI.head{base:Nat}{w:World}{v:Value}{k:Nat}{l:List Nat}(h:QI base w v (k :: l)):∃b off cap,v=.slice (some ⟨b,off,none⟩) (l.length+1) cap∧l.length+1≤cap∧cap≤maxLen∧w.cell? ⟨b,off,none⟩=some (IN k)∧
  (cap≠1→QI base w (.slice (some ⟨b,off+1,none⟩) l.length (cap-1)) l)∧(cap=1→∀ad,QI base w (.slice ad 0 0) []):=by
 obtain⟨ao,b,off,cap,rfl,h1,h2,hc⟩:=h;have hle:=hc.le;rw[List.length_cons]at hle;have hcap:0<cap:=by omega
 have ha:=hc.addr hcap;subst ha;refine⟨b,off,cap,rfl,hle,h1,?_,fun hne=>?_,fun hone ad=>?_⟩
 ·have:=hc.olds 0 (IN k) rfl
  rwa [Nat.add_zero]at this
 ·refine⟨_,b,off+1,cap-1,rfl,by omega,fun _=>h2 hcap,⟨by omega,fun _=>rfl,fun _=>hc.lt hcap,by simp,fun j u hj=>?_,fun j hj=>?_⟩⟩
  ·have:=hc.olds (j+1) u (by rw[List.map_cons,List.getElem?_cons_succ];exact hj)
   rwa [show off+(j+1)=off+1+j by omega]at this
  ·have:=hc.spare j (by rw[Nat.mul_one]at hj ⊢;rw[List.length_cons];omega)
   rw[List.length_cons,Nat.mul_one]at this;rw[Nat.mul_one,show off+1+l.length+j=off+(l.length+1)+j by omega]
   exact this
 ·exact⟨ad,0,0,0,rfl,Nat.zero_le _,fun h=>by omega,⟨Nat.le_refl _,fun h=>by omega,fun h=>by omega,rfl,fun j u h=>by simp at h,fun j h=>by simp at h⟩⟩
theorem QI.form{base:Nat}{w:World}{v:Value}{l:List Nat}(h:QI base w v l):∃ao cap,v=.slice ao l.length cap∧l.length≤cap∧cap≤maxLen:=by
 obtain⟨ao,b,off,cap,rfl,h1,h2,hc⟩:=h;exact⟨ao,cap,rfl,hc.le,h1⟩
theorem Znu{P:Program}(hP:P=Tryz.prog)(ty:TypeId)(W:World)(base:Nat)(v vx:Value)(l k:List Nat)(hq:QI base W v l)(hrd:Rd IN W vx k)(hl:l.length+k.length≤1000000)(hbase:base≤W.heap.size) :
  ∃v' w',(Builtin.append_ #[46,46] ty #[v,vx]).run P W=.ok v' w'∧QI base w' v' (l++k)∧Only (fun b=>base≤b) W w':=by
 subst hP;obtain⟨i0,hi,hz0,hz1,hz2⟩:=info_parts Z8z;obtain⟨ax,cx,rfl,hcx,hmx,hc⟩:=hrd;have hsrc:Src Tryz.prog i0.size 46 (.slice ax k.length cx) k.length (k.map IN) W:=by
  rw[hz1];cases k with
  | nil=>
   cases ax with
   | none=>exact Src.ofNil W Tryz.underlying46 cx
   | some ad=>exact Src.ofSlice W Tryz.underlying46 ad _ cx [] rfl (fun j u h=>by simp at h) (fun u h=>by simp at h)
  | cons x k=>
   obtain⟨b,off,rfl,hcell⟩:=hc (by simp)
   refine Src.ofSlice W Tryz.underlying46 _ _ cx _ (by simp) (fun j u hj=>?_) (fun u hu=>by obtain⟨y,_,rfl⟩:=List.mem_map.1 hu;rfl)
   rw[List.getElem?_map]at hj;obtain⟨y,hy,rfl⟩:=Option.map_eq_some_iff.1 hj;rw[Z97];exact hcell j y hy
 obtain⟨ao,b,off,cap,rfl,h1,h2,hcm⟩:=hq;have hlk:(l++k).length=l.length+k.length:=List.length_append;by_cases hroom:l.length+k.length≤cap
 ·by_cases hcap:0<cap
  ·have ha:=hcm.addr hcap
   subst ha;have hb:=h2 hcap;have hsp:∀j,j<(k.map IN).length→(W.cell? ⟨b,off+l.length*i0.size+j,none⟩).isSome=true∧W.frozen? ⟨b,off+l.length*i0.size+j,none⟩=false:=fun j hj=>by
    rw[List.length_map]at hj;rw[hz1];exact hcm.spare j (by rw[Nat.mul_one];omega)
   have hrun:=run_append_room_src (P:=Tryz.prog) W 46 46 ty 3 i0 Tryz.underlying46 hi b off l.length cap (.slice ax k.length cx) k.length (k.map IN) hsrc hroom (fun j hj=>(hsp j hj).1) (fun j hj=>(hsp j hj).2)
   rw[hz1,Nat.mul_one]at hrun;have ho:=Z5e b (k.map IN) (off+l.length) W;refine⟨_,_,hrun,⟨_,b,off,cap,by rw[hlk],h1,h2,⟨by rw[hlk];exact hroom,fun _=>rfl,fun h=>Nat.lt_of_lt_of_le (hcm.lt h) ho.size,by simp,fun j u hj=>?_,fun j hj=>?_⟩⟩,ho.mono fun i _ e=>by rw[e];exact hb⟩
   ·rw[List.map_append]at hj
    by_cases hjl:j<l.length
    ·rw[List.getElem?_append_left (by simpa using hjl)]at hj
     rw[World.cell?_setCells_out b _ _ _ _ (fun _ _=>.inl (by show off+j<off+l.length;omega))]
     exact hcm.olds j u hj
    ·rw[List.getElem?_append_right (by simpa using hjl),List.length_map]at hj
     obtain⟨hjk,hv⟩:=Q2 hj;have:=World.cell?_setCells_in b (k.map IN) (off+l.length) W (fun t ht=>by
      have:=(hsp t ht).1
      rwa [hz1,Nat.mul_one]at this) (j-l.length) hjk
     rw[show off+l.length+(j-l.length)=off+j by omega]at this
     rw[this,hv]
   ·rw[hlk]at hj ⊢
    rw[Nat.mul_one]at hj ⊢;rw[World.cell?_setCells_out b _ _ _ _ (fun _ _=>.inr (by show off+l.length+(k.map IN).length≤off+(l.length+k.length)+j;rw[List.length_map];omega)),World.frozen?_setCells]
    have:=hcm.spare (k.length+j) (by rw[Nat.mul_one];omega)
    rw[Nat.mul_one,show off+l.length+(k.length+j)=off+(l.length+k.length)+j by omega]at this
    exact this
  ·obtain rfl:cap=0:=by omega
   obtain rfl:l=[]:=List.length_eq_zero_iff.1 (by omega)
   obtain rfl:k=[]:=List.length_eq_zero_iff.1 (by omega)
   have hrun:(Builtin.append_ #[46,46] ty #[.slice ao 0 0,.slice ax 0 cx]).run Tryz.prog W=.ok (.slice ao 0 0) W:=by
    have hu:Tryz.prog.underlying 46=some (.slice 3):=Tryz.underlying46
    have h3:∀w',(Builtin.lenOf (.slice ax 0 cx)).run Tryz.prog w'=.ok 0 w':=hsrc.len
    have h4:(Builtin.firstCells i0.size 0 (.slice ax 0 cx)).run Tryz.prog W=.ok #[] W:=hsrc.cells
    cases ao <;> simp[Builtin.append_,run_underlying hu,sizeOf,typeInfo,hi,h3,h4,storeCells]
   exact⟨_,_,hrun,⟨ao,b,off,0,rfl,h1,h2,hcm⟩,Only.refl _ _⟩
 ·have hold:(Builtin.firstCells i0.size l.length (.slice ao l.length cap)).run Tryz.prog W.drew=.ok (l.map IN).toArray W.drew:=by
   rw[hz1];cases l with
   | nil=>
    cases ao with
    | none=>exact run_firstCells_none W.drew 1 0 0 cap
    | some ad=>exact run_firstCells_some W.drew 1 0 ad 0 cap [] rfl (fun j u h=>by simp at h)
   | cons x l=>
    have hcap:0<cap:=by have:=hcm.le;rw[List.length_cons]at this;omega
    have ha:=hcm.addr hcap;subst ha;refine run_firstCells_some W.drew 1 _ _ _ cap _ (by simp) (fun j u hj=>?_)
    rw[Z97];have:=hcm.olds j u hj;simpa using this
  have hrun:=run_append_grow_src (P:=Tryz.prog) W 46 46 ty 3 i0 (.int .i64 0) Tryz.underlying46 hi hz0 ao l.length cap (l.map IN) hold (.slice ax k.length cx) k.length (k.map IN) hsrc (by omega) (by omega) (growslice_fits (by omega) (by rw[hz2];omega))
  have hge:=grownCap_ge W (l.length+k.length) cap 3;have hcmx:=grownCap_le_maxLen W (l.length+k.length) cap 3 (by unfold maxLen;omega)
  generalize grownCap W (l.length+k.length) cap 3=gc at hrun hge hcmx;have hh:=(MapKept.heap_alloc W.drew (.cells ((l.map IN++k.map IN).toArray++Builtin.zeroCells (Value.int .i64 0).cells (gc-(l.length+k.length))) 3 (0,0))).1;have hsz:W.drew.heap.size=W.heap.size:=rfl;rw[hsz]at hh;have hcs:((l.map IN++k.map IN).toArray++Builtin.zeroCells (Value.int .i64 0).cells (gc-(l.length+k.length))).size=gc:=by
   rw[Array.size_append,size_zeroCells,List.size_toArray,List.length_append,List.length_map,List.length_map];show l.length+k.length+(gc-(l.length+k.length))*1=gc
   omega
  have ho:Only (fun b=>base≤b) W (W.drew.alloc (.cells ((l.map IN++k.map IN).toArray++Builtin.zeroCells (Value.int .i64 0).cells (gc-(l.length+k.length))) 3 (0,0))):=(Only.drew _ W).then (Only.alloc _ _ _)
  refine⟨_,_,hrun,⟨_,W.heap.size,0,gc,by rw[hlk],hcmx,fun _=>hbase,⟨by rw[hlk];exact hge,fun _=>rfl,fun _=>Z03 hh,by simp,fun j u hj=>?_,fun j hj=>?_⟩⟩,ho⟩
  ·rw[Nat.zero_add,Z00 hh]
   rw[List.map_append]at hj;have hlt:=(Q2 hj).1;rw[Array.getElem?_append_left (by simpa using hlt),List.getElem?_toArray,hj]
  ·rw[hlk]at hj ⊢
   rw[Nat.mul_one]at hj ⊢;refine⟨?_,Z02 hh _⟩;rw[Nat.zero_add,Z00 hh,Array.getElem?_eq_getElem (by rw[hcs];omega)]
   rfl
theorem Zng{P:Program}(hP:P=Tryz.prog){ops:Array Oper}{rest:List Oper}{o:Oper}{a:Act}{Q:Exit→Act→World→Prop}(s x:Operand)(base:Nat)(v vx:Value)(l k:List Nat)(W:World)(hgd:o.guard=none)
  (ho:o.op=.call { callee:=.builtin .append,args:=#[s,x],argTypes:=#[46,46] }) (hs:a.eval s=v) (hx:a.eval x=vx) (hq:QI base W v l) (hrd:Rd IN W vx k) (hl:l.length+k.length≤1000000) (hbase:base≤W.heap.size)
  (hK:∀v' w',Hid (QI base w' v' (l++k))→Hid (Only (fun b=>base≤b) W w')→wpList P ops Q rest (a.put o.dst v') w') :
  wpList P ops Q (o :: rest) a W:=by
 refine wpList_plain hgd fun K hK'=>?_
 obtain⟨v',w',hrun,h1,h2⟩:=Znu hP o.type W base v vx l k hq hrd hl hbase;unfold Oper.wp;simp[execOp,ho,resolve,invoke,builtin,hs,hx,hrun,Result.andThen];exact hK' _ _ (hK v' w' (Q0 h1) (Q0 h2))
theorem infoInts:(Tryz.prog.info? 46).map (fun i=>(i.zero,i.size,i.bytes))=some (some (.slice none 0 0),1,24):=by kernel_rfl
theorem run_rows(n:Nat)(hn:n≤1000000)(w:World):(Instr.makeSlice 77 (.int .i64 (n:Int)) (.int .i64 (n:Int))).run Tryz.prog w =
  .ok (.slice (some ⟨w.heap.size,0,none⟩) n n) (w.alloc (.cells (Array.replicate n (.slice none 0 0)) 46 (0,0))):=by
 obtain⟨i0,hi,hz0,hz1,hz2⟩:=info_parts infoInts;have h:=run_make w 77 46 i0 (.slice none 0 0) Tryz.underlying77 hi hz0 .i64 .i64 (n:Int) (n:Int) (by omega) (Int.le_refl _) (by rw[hz2];omega) (by omega)
 rw[h,hz1];rw[Int.toNat_natCast,Nat.mul_one];congr 2;congr 1;apply Array.ext
 ·simp[madeCells]
 ·intro i h1 h2
  simp[madeCells,Value.cells,Nat.mod_one]
structure EdAt(l:List Rule)(w wr:World)(ob mb:Nat)(L:List (B×Nat))(i bs:Nat)(u:Value)(cur:List Nat)(f:Nat→Value):Prop where
 ext:Ext w wr
 map:KMap .string S IN wr mb L
 tab:Z0s wr ob 46 l.length f
 done:∀k,k<i→Rd IN wr (f k) (Z24 l.length (Z07 l) k)∧∀b,(f k).ownBlock=some b→b<bs∧b≠ob∧b≠mb
 rest:∀k,i<k→f k=.slice none 0 0
 at_:f i=u
 row:RowI bs wr u cur
 lo:w.heap.size≤ob∧w.heap.size≤mb∧ob<bs∧mb<bs∧bs≤wr.heap.size∧ob≠mb
theorem Rd.only{α:Type}{enc:α→Value}{w w':World}{v:Value}{l:List α}{p:Nat→Prop}(h:Rd enc w v l)(ho:Only p w w')(hp:∀b,v.ownBlock=some b→¬p b):Rd enc w' v l:=by
 obtain⟨a,cap,h1,h2,h3,h4⟩:=h;refine⟨a,cap,h1,h2,h3,fun hl=>?_⟩
 obtain⟨b,off,h5,h6⟩:=h4 hl;refine⟨b,off,h5,fun i x hx=>ho.cellOf (h6 i x hx) (hp b ?_)⟩
 rw[h1,h5];rfl
theorem EdAt.later{l:List Rule}{w wr w':World}{ob mb i bs:Nat}{L:List (B×Nat)}{u:Value}{cur cur':List Nat}{f:Nat→Value}(h:EdAt l w wr ob mb L i bs u cur f)(ho:Only (fun b=>u.ownBlock=some b) wr w')(hr:RowI bs w' u cur'):EdAt l w w' ob mb L i bs u cur' f:=by
 have hb:∀b,u.ownBlock=some b→bs≤b:=h.row.base
 obtain⟨l1,l2,l3,l4,l5,l6⟩:=h.lo;refine⟨h.ext.trans ho (fun _ _ h=>h) (fun k hk e=>by have:=hb k e;omega),h.map.later ho (fun e=>by have:=hb _ e;omega),h.tab.later ho (fun e=>by have:=hb _ e;omega),fun k hk=>?_,h.rest,h.at_,hr,⟨l1,l2,l3,l4,Nat.le_trans l5 ho.size,l6⟩⟩
 obtain⟨d1,d2⟩:=h.done k hk;exact⟨d1.only ho (fun b e e2=>by have:=hb b e2;have:=(d2 b e).1;omega),d2⟩
theorem EdAt.grow{l:List Rule}{w wr w':World}{ob mb i bs:Nat}{L:List (B×Nat)}{u:Value}{cur:List Nat}{f:Nat→Value}(h:EdAt l w wr ob mb L i bs u cur f)(ho:Ext wr w'):EdAt l w w' ob mb L i bs u cur f:=
 h.later ((Only.of_ext ho)) (h.row.ext ho)
theorem EdAt.cell{l:List Rule}{w wr:World}{ob mb i bs:Nat}{L:List (B×Nat)}{u:Value}{cur:List Nat}{f:Nat→Value}(h:EdAt l w wr ob mb L i bs u cur f)(hi:i<l.length):wr.cell? ⟨ob,i,none⟩=some u:=by
 rw[h.tab.cell hi,h.at_]
theorem EdAt.push{l:List Rule}{w wr w1:World}{ob mb i bs:Nat}{L:List (B×Nat)}{u u':Value}{cur cur':List Nat}{f:Nat→Value}(h:EdAt l w wr ob mb L i bs u cur f)(hg:wr.grownBy w1 u.ownBlock)(hr:RowI bs w1 u' cur') :
  EdAt l w (w1.setCell ⟨ob,i,none⟩ u') ob mb L i bs u' cur' (fun k=>if k=i then u' else f k):=by
 have ho:Only (fun b=>u.ownBlock=some b) wr w1:=Only.of_grown hg
 have hb:∀b,u.ownBlock=some b→bs≤b:=h.row.base
 have hb':∀b,u'.ownBlock=some b→bs≤b:=hr.base
 obtain⟨l1,l2,l3,l4,l5,l6⟩:=h.lo;have hs:Only (fun b=>b=ob) w1 (w1.setCell ⟨ob,i,none⟩ u'):=Only.set u' rfl
 have h1:=h.ext.trans ho (fun _ _ h=>h) (fun k hk e=>by have:=hb k e;omega)
 refine⟨h1.trans hs (fun _ _ h=>h) (fun k hk e=>by omega),(h.map.later ho (fun e=>by have:=hb _ e;omega)).later hs (fun e=>l6 e.symm),(h.tab.later ho (fun e=>by have:=hb _ e;omega)).set i u',fun k hk=>?_,fun k hk=>?_,if_pos rfl,hs.row hr (fun b e e2=>by have:=hb' b e;omega),⟨l1,l2,l3,l4,Nat.le_trans l5 (Nat.le_trans ho.size hs.size),l6⟩⟩
 ·obtain⟨d1,d2⟩:=h.done k hk
  have e:(if k=i then u' else f k)=f k:=if_neg (by omega)
  show Rd IN _ (if k=i then u' else f k) _∧∀b,(if k=i then u' else f k).ownBlock=some b→_
  rw[e];exact⟨(d1.only ho (fun b e e2=>by have:=hb b e2;have:=(d2 b e).1;omega)).only hs (fun b e e2=>(d2 b e).2.1 e2),d2⟩
 ·show (if k=i then u' else f k)=_
  rw[if_neg (by omega)]
  exact h.rest k hk
theorem EdAt.step{l:List Rule}{w wr:World}{ob mb i bs:Nat}{L:List (B×Nat)}{u:Value}{f:Nat→Value}(h:EdAt l w wr ob mb L i bs u (Z24 l.length (Z07 l) i) f):EdAt l w wr ob mb L (i+1) wr.heap.size (.slice none 0 0) [] f:=by
 obtain⟨l1,l2,l3,l4,l5,l6⟩:=h.lo;refine⟨h.ext,h.map,h.tab,fun k hk=>?_,fun k hk=>h.rest k (by omega),h.rest _ (Nat.lt_succ_self _),RowI.nil _ _,⟨l1,l2,by omega,by omega,Nat.le_refl _,l6⟩⟩
 rcases Nat.lt_succ_iff_lt_or_eq.1 hk with h1|rfl
 ·obtain⟨d1,d2⟩:=h.done k h1
  exact⟨d1,fun b e=>⟨by have:=(d2 b e).1;omega,(d2 b e).2⟩⟩
 ·rw[h.at_]
  exact⟨h.row.rd,fun b e=>by have:=h.row.lt b e;exact⟨this.2,by omega,by omega⟩⟩
theorem EdAt.start{l:List Rule}{w wr:World}{mb:Nat}{L:List (B×Nat)}(hx:Ext w wr)(hm:KMap .string S IN wr mb L)(hb:w.heap.size≤mb) :
  EdAt l w (wr.alloc (.cells (Array.replicate l.length (.slice none 0 0)) 46 (0,0))) wr.heap.size mb L 0 (wr.heap.size+1) (.slice none 0 0) [] (fun _=>.slice none 0 0):=by
 have hlt:=hm.lt;exact⟨hx.thenAlloc _,hm.later (Only.alloc (fun _=>False) _ _) (fun h=>h),Z0s.made wr _ _ _,fun k hk=>absurd hk (Nat.not_lt_zero _),fun _ _=>rfl,rfl,RowI.nil _ _,⟨hx.size,hb,Nat.lt_succ_self _,by omega,by simp,by omega⟩⟩
theorem EdAt.out{l:List Rule}{w wr:World}{ob mb bs:Nat}{L:List (B×Nat)}{u:Value}{cur:List Nat}{f:Nat→Value}(h:EdAt l w wr ob mb L l.length bs u cur f)(hl:l.length≤1000000):RdLL wr (.slice (some ⟨ob,0,none⟩) l.length l.length) ((List.range l.length).map (Z24 l.length (Z07 l))):=by
 refine⟨_,l.length,by simp,by simp,by unfold maxLen;omega,fun _=>⟨ob,0,rfl,fun i x hx=>?_⟩⟩
 rw[List.getElem?_map]at hx;obtain⟨k,hk,rfl⟩:=Option.map_eq_some_iff.1 hx;obtain⟨h1,h2⟩:=Q2 hk;have hi:i<l.length:=by simpa using h1
 have:i=k:=by simpa using h2
 subst this;rw[Nat.zero_add];exact⟨f i,(h.done i hi).1,h.tab.cell hi⟩
theorem EdAt.mid{l:List Rule}{w wr w1:World}{ob mb i bs:Nat}{L:List (B×Nat)}{u:Value}{cur:List Nat}{f:Nat→Value}(h:EdAt l w wr ob mb L i bs u cur f)(hg:wr.grownBy w1 u.ownBlock):Z0s w1 ob 46 l.length f:=
 h.tab.later (Only.of_grown hg) (fun e=>by have:=h.row.base _ e;have:=h.lo;omega)
theorem Zpq(l:List Rule)(ins:List B):(curB l ins).length≤ins.length:=List.length_filterMap_le _ _
theorem cur_step{l:List Rule}{ins:List B}{t:Nat}{s:B}(h:ins[t]?=some s):curB l (ins.take (t+1))=curB l (ins.take t)++(match byB l l.length s with|some k=>[k]|none=>[]):=by
 unfold curB;rw[List.take_add_one,h,Option.toList_some,List.filterMap_append];congr 1;simp only[List.filterMap_cons,List.filterMap_nil];cases byB l l.length s <;> rfl
theorem Zbi(w:World)(l:List Rule)(v:Value)(hv:RdR w v l)(hr:Z34 l)(hs:∀r∈l,r.ins.length≤900000) :
  Calls Tryz.prog 160 #[v] w (RetLL ((List.range l.length).map (Z24 l.length (Z07 l))) w):=by
 have HRD:=Q0 hv;obtain⟨a,cap,rfl,hcap,hml,hc⟩:=hv;have hl40:l.length≤40:=hr.1;have hlz:(l.length:Int)≤40:=by omega
 have HC:=Q0 hc;have HS:=Q0 hs;have HR:=Q0 hr;clear hc hs hr;have HM0:Hid (KMap .string S IN (w.alloc (.map #[] 0)) w.heap.size []):=Q0 (KMap.made w .string S IN);have HX0:Hid (Ext w (w.alloc (.map #[] 0))):=Q0 (Only.alloc _ _ _);obtain⟨mb,hmb⟩:∃mb,mb=w.heap.size:=⟨_,rfl⟩;have HB:Hid (w.heap.size≤mb):=Q0 (by omega)
 have hmm:=@run_makeMap Tryz.prog;clear hml;go_enter Tryz.func160,Tryz.ntmps160;go_wp2_with fail;clear hmm;generalize (w.alloc (.map #[] 0))=wm at *;rw[←hmb]at HM0 ⊢;clear hmb;go_loopw [4,5,16] (fun _ _ i wr=>∃(j:Nat) (L:List (B×Nat)),j≤l.length∧i=.int .i64 j∧Hid (KMap .string S IN wr mb L)∧Hid (∀s,L.lookup s=byB l j s)∧Hid (Ext w wr)) (fun _ _ i _=>l.length-(intOf i).toNat)
 case atStart=>exact⟨0,[],Nat.zero_le _,rfl,HM0,Q0 (fun s=>rfl),HX0⟩
 case round=>
  obtain⟨j,L,hj,rfl,HM,HLK,HX⟩:=hrel;by_cases hlt:j<l.length
  ·have hltz:(j:Int)<(l.length:Int):=by omega
   have hj0:(0:Int)≤(j:Int):=by omega
   obtain⟨b,off,rfl,hcell⟩:=HC.out (by intro h;rw[h]at hlt;simp at hlt)
   obtain⟨r,hq⟩:∃y,l[j]?=some y:=⟨_,Q1 hlt⟩;obtain⟨u,hu,c0,c1,c2,c3⟩:=hcell j r hq;have d0:=HX.out.cellOf c0 (fun h=>h)
   have d1:=HX.out.cellOf c1 (fun h=>h)
   have d2:=HX.out.cellOf c2 (fun h=>h)
   have d3:=HX.out.cellOf c3 (fun h=>h)
   have HLK2:=Q0 (by_step hq HLK.out);obtain⟨w2,hrun,hm2,ho2,hs2⟩:=KMap.store (P:=Tryz.prog) Z08 (HM.out.later (Only.alloc (fun _=>False) wr (.cells #[S r.out,S r.kind,S r.word,u] 55 (0,0))) (fun h=>h)) Tryz.underlying181 Tryz.underlying9 r.out j
   have HX2:Hid (Ext w w2):=Q0 ((HX.out.thenAlloc _).trans ho2 (fun _ _ h=>h) (fun i hi e=>by have:=HB.out;omega))
   obtain⟨au,cu,hua,_,_,_⟩:=hu;generalize r.ins.length=ln at hua;subst hua;have HM2:=Q0 hm2;clear hm2;clear hcell hq c0 c1 c2 c3 ho2 hs2;go_wp2_with fail;go_roundw
   case rel=>exact⟨j+1,_,by omega,by go_num,HM2,HLK2,HX2⟩
   case measure=>simp[intOf];omega
  ·have hltz:¬(j:Int)<(l.length:Int):=by omega
   obtain rfl:j=l.length:=by omega
   have hmk:=run_rows l.length (by omega) wr
   have HE:=Q0 (EdAt.start (l:=l) HX.out HM.out HB.out);clear HM HX hj hlt;go_wp2_with fail;obtain⟨ob,hob⟩:∃ob,ob=wr.heap.size:=⟨_,rfl⟩;generalize (wr.alloc (.cells (Array.replicate l.length (.slice none 0 0)) 46 (0,0)))=wo at HE ⊢;rw[←hob]at HE ⊢;clear hob hmk;go_loopw [7,8,10,11,12,31] (fun _ _ _ _ _ i wq=>∃(j bs:Nat)(f:Nat→Value),j≤l.length∧i=.int .i64 j∧Hid (EdAt l w wq ob mb L j bs (.slice none 0 0) [] f)) (fun _ _ _ _ _ i _=>l.length-(intOf i).toNat)
   case atStart=>exact⟨0,_,_,Nat.zero_le _,rfl,HE⟩
   case round=>
    clear HE;obtain⟨j,bs,f,hj,rfl,HE⟩:=hrel;by_cases hlt:j<l.length
    ·have hltz:(j:Int)<(l.length:Int):=by omega
     have hj0:(0:Int)≤(j:Int):=by omega
     obtain⟨b,off,rfl,hcell⟩:=HC.out (by intro h;rw[h]at hlt;simp at hlt)
     obtain⟨r,hq⟩:∃y,l[j]?=some y:=⟨_,Q1 hlt⟩;obtain⟨u,hu,c0,c1,c2,c3⟩:=hcell j r hq;have d0:=HE.out.ext.cellOf c0 (fun h=>h)
     have d1:=HE.out.ext.cellOf c1 (fun h=>h)
     have d2:=HE.out.ext.cellOf c2 (fun h=>h)
     have d3:=HE.out.ext.cellOf c3 (fun h=>h)
     have hsr:=HS.out r (Q4 hq);have HCS:=Q0 (Zn4 HR.out hq);have HE2:=Q0 (HE.out.grow (Only.alloc (fun _=>False) wr (.cells #[S r.out,S r.kind,S r.word,u] 55 (0,0))))
     obtain⟨au,cu,hua,_,_,hci⟩:=hu;obtain⟨ins,hins⟩:∃ins,ins=r.ins:=⟨_,rfl⟩;rw[←hins]at hsr HCS hua hci;subst hua;have HCI:=Q0 hci;have HSR:=Q0 hsr;clear hci hsr;have hinz:(ins.length:Int)≤900000:=by have:=HSR.out;omega
     clear hcell hq c0 c1 c2 c3 hins HE;go_wp2_with fail;generalize (wr.alloc (.cells #[S r.out,S r.kind,S r.word,.slice au ins.length cu] 55 (0,0)))=wa at HE2 ⊢;go_loopw [10,11,12,39] (fun _ _ _ t wx=>∃(i:Nat)(u:Value)(f:Nat→Value),i≤ins.length∧t=.int .i64 i∧Hid (EdAt l w wx ob mb L j bs u (curB l (ins.take i)) f)) (fun _ _ _ t _=>ins.length-(intOf t).toNat)
     case atStart=>exact⟨0,_,_,Nat.zero_le _,rfl,HE2⟩
     case round=>
      clear HE2;obtain⟨i,u,f,hi,rfl,HE⟩:=hrel;have t0:=HE.out.cell hlt;by_cases hil:i<ins.length
      ·have hilz:(i:Int)<(ins.length:Int):=by omega
       have hi0:(0:Int)≤(i:Int):=by omega
       obtain⟨b2,off2,rfl,hcell⟩:=HCI.out (by intro h;rw[h]at hil;simp at hil)
       obtain⟨s,hs⟩:∃y,ins[i]?=some y:=⟨_,Q1 hil⟩;have e0:=HE.out.ext.cellOf (hcell i s hs) (fun h=>h)
       have hlk:=KMap.look (P:=Tryz.prog) Z08 HE.out.map Tryz.underlying181 Tryz.underlying9 (z:=.int .i64 0) (by kernel_rfl) s
       rw[HLK.out s]at hlk;have hst:=cur_step (l:=l) hs;have hcl:(curB l (ins.take i)).length≤900000:=by
        have h1:=Zpq l (ins.take i);rw[List.length_take]at h1;have:=HSR.out;omega
       cases hby:byB l l.length s with
       | none=>
        rw[hby]at hlk hst;simp only[List.append_nil]at hst;have HE3:=HE;rw[←hst]at HE3;clear hcell hs hst hby;go_wp2_with fail;go_roundw
        case rel=>exact⟨i+1,u,f,by omega,by go_num,HE3⟩
        case measure=>simp[intOf];omega
       | some k=>
        rw[hby]at hlk hst;simp only[Option.isSome_some]at hlk;have HST:=Q0 hst;have HCL:=Q0 hcl;clear hcell hs hst hby hcl;go_wp2_with (at_builtin;refine Zl7 rfl (.tmp 55) (.tmp 57) w bs u (curB l (ins.take i)) k wr rfl rfl rfl rfl HE.out.row (Nat.le_trans HCL.out (by decide)) HE.out.lo.2.2.2.2.1 HE.out.ext (by have:=HE.out.lo;omega) ?_;intro g5 cap5 w5 HR5 _ HG5;have htab:=HE.out.mid HG5.out;have hfz:=htab.free j;have hc5:=htab.cell hlt;have HP5:=Q0 (HE.out.push HG5.out HR5.out);clear htab)
        go_roundw
        case rel=>exact⟨i+1,_,_,by omega,by go_num,Q0 (by rw[HST.out];exact HP5.out)⟩
        case measure=>simp[intOf];omega
      ·have hilz:¬(i:Int)<(ins.length:Int):=by omega
       have ht:ins.take i=ins:=List.take_of_length_le (by omega)
       rw[ht]at HE;have hcl:(curB l ins).length≤1000000:=by have h1:=Zpq l ins;have:=HSR.out;omega
       have hsort:=Zfk wr bs u (curB l ins) HE.out.row hcl;rw[HCS.out]at hsort;have HSO:=Q0 hsort;clear hsort hcl ht hi;rcases HE.out.row.cases with⟨rfl,hnil⟩|⟨g,cp,rfl⟩
       ·clear hnil
        go_wp2_with fail;refine HSO.out.mono ?_
        rintro e w6 ⟨rfl,hr6,ho6⟩;have HE6:=Q0 (HE.out.later ho6 hr6).step;clear hr6 ho6;go_wp2_with fail;go_roundw
        case rel=>exact⟨j+1,_,_,by omega,by go_num,HE6⟩
        case measure=>simp[intOf];omega
       ·go_wp2_with fail
        refine HSO.out.mono ?_;rintro e w6 ⟨rfl,hr6,ho6⟩;have HE6:=Q0 (HE.out.later ho6 hr6).step;clear hr6 ho6;go_wp2_with fail;go_roundw
        case rel=>exact⟨j+1,_,_,by omega,by go_num,HE6⟩
        case measure=>simp[intOf];omega
    ·have hltz:¬(j:Int)<(l.length:Int):=by omega
     obtain rfl:j=l.length:=by omega
     have HO:=Q0 (HE.out.out (by omega))
     go_wp2_with fail;go_ret
     exact⟨_,rfl,HO.out,HE.out.ext⟩
end Go.Proofs.YtnmhaipjfpongacGreatDoor
