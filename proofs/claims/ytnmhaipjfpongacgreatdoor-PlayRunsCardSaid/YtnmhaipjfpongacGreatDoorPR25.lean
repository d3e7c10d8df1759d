/- A part of this claim's proof;each theorem bears its own conditions. -/
import Derived.Test.YtnmhaipjfpongacGreatDoorPR23
set_option maxRecDepth 100000
set_option maxHeartbeats 8000000
namespace Go.Proofs.YtnmhaipjfpongacGreatDoor
open Go.ChangeShapes Go.WideShapes Go.ChangeAt Go.RowKit
open Go.MapKept (Stamped)
open Go.ChangeMaps (setBlock)
theorem Zg8{E:BE}{o:List Nat}{is:Nat→Bool}(h:Z0w E o is){i:Nat}(hi:i∈E.sm){k:Nat}:k∈E.needs (E.rule i).ins↔k∈E.sm∧E.nd i k=true:=by
 constructor
 ·intro hk
  obtain⟨h1,h2⟩:=Zb3 hk;exact⟨h1,(Z9z (h.lt i hi) (h.lt k h1)).2 h2⟩
 ·rintro⟨h1,h2⟩
  have h3:=(Z9z (h.lt i hi) (h.lt k h1)).1 h2;refine List.mem_filterMap.2 ⟨_,h3,?_⟩;rcases h.input hi h3 with⟨k',hk',_,h4,h5,_⟩|⟨h4,_⟩
  ·rw[h5]
   have:=Z1r h.right.2.2 (i:=k') (j:=k) (x:=(E.rule k).out) (by rw[List.getElem?_map,BE.rule_at (h.lt k' hk'),Option.map_some,h4]) (by rw[List.getElem?_map,BE.rule_at (h.lt k h1)];rfl)
   rw[this]
  ·exact absurd rfl (Zpv h4 k h1)
theorem Zct{E:BE}{o:List Nat}{is:Nat→Bool}(h:Z0w E o is){i:Nat}(hi:i∈E.sm)(f:Nat→Bool):(E.needs (E.rule i).ins).any f=true↔∃k∈E.sm,E.nd i k=true∧f k=true:=by
 rw[List.any_eq_true];constructor
 ·rintro⟨k,hk,hf⟩
  obtain⟨h1,h2⟩:=(Zg8 h hi).1 hk;exact⟨k,h1,h2,hf⟩
 ·rintro⟨k,h1,h2,hf⟩
  exact⟨k,(Zg8 h hi).2 ⟨h1,h2⟩,hf⟩
def Zop(E:BE)(K:BK)(q:Nat→Bool)(b:Nat):Bool:=E.sm.any fun k=>K.blk k==b&&q k
theorem Zdy{E:BE}{K:BK}{q:Nat→Bool}(hj:∀i∈E.sm,∀j∈E.sm,K.blk i=K.blk j→i=j){k:Nat}(hk:k∈E.sm):Zop E K q (K.blk k)=q k:=by
 unfold Zop;rw[Bool.eq_iff_iff,List.any_eq_true];constructor
 ·rintro⟨j,h1,h2⟩
  rw[Bool.and_eq_true,beq_iff_eq]at h2;rw[←hj j h1 k hk h2.1];exact h2.2
 ·intro h
  exact⟨k,hk,by simp[h]⟩
theorem Zg3{E:BE}{K:BK}{q:Nat→Bool}(hj:∀i∈E.sm,∀j∈E.sm,K.blk i=K.blk j→i=j){l:List Nat}(hl:∀k∈l,k∈E.sm):(l.map K.blk).any (Zop E K q)=l.any q:=by
 induction l with
 | nil=>rfl
 | cons x l ih=>rw[List.map_cons,List.any_cons,List.any_cons,Zdy hj (hl x (.head _)),ih fun k hk=>hl k (.tail _ hk)]
theorem Zej:∀args w,(callFunc 187 args).run Tryz.prog w=.ok (.enter 187 args) w:=fun args w=>by kernel_rfl
theorem Zh2:∀args w,(callFunc 188 args).run Tryz.prog w=.ok (.enter 188 args) w:=fun args w=>by kernel_rfl
section
variable {w:World}{P:Nat→Addr}{base:Nat}{E:BE}{K:BK}{s:BS}
theorem Zi7(h:Z0c w P base E K s){k:Nat}(hk:k∈E.sm):Calls Tryz.prog 187 #[PTR (K.blk k)] w (RetE (.bool (s.st k != 2)) w):=by
 have c:=(h.stepCell hk 4).trans (rfl:_=some (IN (s.st k)));obtain⟨q,hq⟩:∃q,(((s.st k:Nat):Int) != 2)=q:=⟨_,rfl⟩;have hq2:(s.st k != 2)=q:=by rw[←hq,Bool.eq_iff_iff,bne_iff_ne,bne_iff_ne];omega
 rw[hq2];clear h hq2;go_enter Tryz.func187,Tryz.ntmps187;go_wp2_with fail;go_ret;exact⟨rfl,Only.refl _ _⟩
theorem Zmv(h:Z0c w P base E K s){k:Nat}(hk:k∈E.sm):Calls Tryz.prog 188 #[PTR (K.blk k)] w (RetE (.bool (decide (3≤s.st k))) w):=by
 have c:=(h.stepCell hk 4).trans (rfl:_=some (IN (s.st k)));by_cases h3:3≤s.st k
 ·have hz:(3:Int)≤((s.st k:Nat):Int):=by omega
  rw[decide_eq_true h3];clear h h3;go_enter Tryz.func188,Tryz.ntmps188;go_wp2_with fail;go_ret;exact⟨rfl,Only.refl _ _⟩
 ·have hz:¬(3:Int)≤((s.st k:Nat):Int):=by omega
  rw[decide_eq_false h3];clear h h3;go_enter Tryz.func188,Tryz.ntmps188;go_wp2_with fail;go_ret;exact⟨rfl,Only.refl _ _⟩
end
theorem Z3o(w:World)(P:Nat→Addr)(base:Nat)(E:BE)(K:BK)(s:BS)(o:List Nat)(is:Nat→Bool)(i:Nat)(hi:i∈E.sm)(h:Z0c w P base E K s)(hW:Z0w E o is)(hl:(E.rule i).ins.length≤900000) :
  Calls Tryz.prog 120 #[PTR K.b,PTR (K.blk i)] w (RetE (.bool (Z0n E s i)) w):=by
 have c:=(h.stepCell hi 4).trans (rfl:_=some (IN (s.st i)));have HB:=Q0 h;by_cases h1:s.st i=1
 ·have HN:=Q0 (Zg9 w P base E K s i hi h hl)
  have hsub:∀k∈E.needs (E.rule i).ins,k∈E.sm:=fun k hk=>(Zb3 hk).1
  have hr:Z0n E s i = !(E.needs (E.rule i).ins).any fun k=>s.st k != 2:=by
   rw[Bool.eq_iff_iff,Z13,Bool.not_eq_true',Bool.eq_false_iff,Ne,Zct hW hi];constructor
   ·rintro⟨_,h2⟩ ⟨k,hk,hn,hf⟩
    rw[h2 k hk hn]at hf;cases hf
   ·intro h2
    refine⟨h1,fun k hk hn=>Classical.byContradiction fun h3=>h2 ⟨k,hk,hn,bne_iff_ne.2 h3⟩⟩
  rw[hr];have HCT:=Q0 (fun(w1:World) (v1:Value) (hx:Ext w w1) (hv:Rd PTR w1 v1 ((E.needs (E.rule i).ins).map K.blk))=>
   Z69 187 (Zop E K fun k=>s.st k != 2) w1 v1 _ hv Zej (fun w2 hx2 x hxm=>by
    obtain⟨k,hk,rfl⟩:=List.mem_map.1 hxm;rw[Zdy h.inj (hsub k hk)];exact Zi7 (h.ext (hx.then hx2)) (hsub k hk)))
  have HAN:=Q0 (Zg3 (q:=fun k=>s.st k != 2) h.inj hsub)
  replace c:w.cell? ⟨K.blk i,4,none⟩=some (.int .i64 1):=by rw[c,h1];rfl
  generalize (E.needs (E.rule i).ins).any (fun k=>s.st k != 2)=q at HAN ⊢
  clear h h1 hr hsub hi hl hW;go_enter Tryz.func120,Tryz.ntmps120;go_wp2_with fail;refine HN.out.mono ?_;rintro e w1 ⟨v1,rfl,hrow,ho⟩;have HX1:=Q0 ho;have hct:=HCT.out w1 v1 ho hrow.rd;rw[HAN.out]at hct;have HC:=Q0 hct;obtain⟨a1,n1,rfl,_,_,_⟩:=hrow.rd;rw[List.length_map]at HC;clear hrow ho hct;go_wp2_with fail;refine(HC.out).mono ?_;rintro e w2 ⟨rfl,ho⟩;have HX2:=Q0 (HX1.out.then ho);clear ho;go_wp2_with fail;go_ret;exact⟨rfl,HX2.out⟩
 ·have hr:Z0n E s i=false:=by
   unfold Z0n;rw[Q3 h1];rfl
  rw[hr];have hz:(((s.st i:Nat):Int)==1)=false:=Q3 (by omega)
  clear h h1 hr hi hl hW;go_enter Tryz.func120,Tryz.ntmps120;go_wp2_with fail;go_ret;exact⟨rfl,Only.refl _ _⟩
theorem Zb1{P:Program}{w:World}{ty:TypeId}{r bm clock:Nat}{seen:Array Nat}{es:Array MapEntry}(hr:w.heap[r]?=some (.mapIter (some bm) clock seen clock))(hb:w.heap[bm]?=some (.map es clock))(hbr:bm≠r)(hst:Stamped es clock) :
  ((leftOf es seen).size=0∧(Instr.next (.pointer (some ⟨r,0,none⟩)) false ty).run P w=.ok (.tuple #[.bool false]) w)∨
  ∃e∈(leftOf es seen).toList,∃w1:World,Only (fun i=>i=r) w w1∧w1.heap[r]?=some (.mapIter (some bm) clock (seen.push e.born) clock)∧
   (Instr.next (.pointer (some ⟨r,0,none⟩)) false ty).run P w=.ok (.tuple #[.bool true,e.key,e.val]) w1∧(Instr.entry (.pointer (some ⟨r,0,none⟩))).run P w1=.ok (.tuple #[e.key,e.val]) w1:=by
 rcases run_next_at (P:=P) w ty r bm clock clock seen es clock hr hb hst.1 (Nat.le_refl _)with h|⟨e,he,w1,hw,hrun⟩
 ·exact .inl h
 ·have hx1:Only (fun i=>i=r) w w1:=by rcases hw with rfl|rfl;exact Only.refl _ _;exact Only.drew _ _
  have hh1:w1.heap=w.heap:=by rcases hw with rfl|rfl <;> rfl
  have hlr:r<w1.heap.size:=by rw[hh1];exact Z03 hr
  have hr1:(setBlock w1 r (.mapIter (some bm) clock (seen.push e.born) clock)).heap[r]?=some (.mapIter (some bm) clock (seen.push e.born) clock):=by
   simp[setBlock,hlr]
  have hb1:(setBlock w1 r (.mapIter (some bm) clock (seen.push e.born) clock)).heap[bm]?=some (.map es clock):=by
   have:w1.heap[bm]?=some (.map es clock):=by rw[hh1];exact hb
   simp only[setBlock];rw[Array.getElem?_setIfInBounds_ne (Ne.symm hbr)];exact this
  exact .inr ⟨e,he,_,hx1.then (Z0l w1 r _),hr1,hrun,run_entry_at _ r bm clock seen es clock e hr1 hb1 (mem_left he).1 hst.2.1⟩
theorem Zan{l k:List Nat}(hn:l.Nodup)(hm:∀x,x∈l↔x∈k)(hk:k.Pairwise fun x y=>x<y):Z7s l=k:=by
 have hp:l.Perm k:=(List.perm_ext_iff_of_nodup hn (hk.imp fun h=>Nat.ne_of_lt h)).2 hm
 have hes:k.Pairwise fun x y=>decide (x≤y)=true:=hk.imp fun h=>decide_eq_true (Nat.le_of_lt h)
 have hss:(Z7s l).Pairwise fun x y=>decide (x≤y)=true:=by
  unfold Z7s;refine List.pairwise_mergeSort (le:=fun x y:Nat=>decide (x≤y)) (fun a b c h1 h2=>?_) (fun a b=>?_) _
  ·exact decide_eq_true (Nat.le_trans (of_decide_eq_true h1) (of_decide_eq_true h2))
  ·rcases Nat.le_total a b with h|h
   ·rw[decide_eq_true h];rfl
   ·rw[decide_eq_true h,Bool.or_true]
 exact List.Perm.eq_of_pairwise (fun a b _ _ h1 h2=>Nat.le_antisymm (of_decide_eq_true h1) (of_decide_eq_true h2)) hss hes ((List.mergeSort_perm _ _).trans hp)
structure Ents(E:BE)(K:BK)(es:Array MapEntry):Prop where
 perm:(es.toList.map fun e=>(e.key,e.val)).Perm ((E.sm.map fun(i:Nat)=>((i:Int),K.blk i)).map fun p=>(I p.1,PTR p.2))
 nodup:E.sm.Nodup
theorem Ents.of{E:BE}{K:BK}{es:Array MapEntry}(h:Ents E K es){e:MapEntry}(he:e∈es.toList):∃k∈E.sm,e.key=IN k∧e.val=PTR (K.blk k):=by
 have:=h.perm.mem_iff.1 (List.mem_map.2 ⟨e,he,rfl⟩)
 obtain⟨p,hp,e1⟩:=List.mem_map.1 this;obtain⟨k,hk,rfl⟩:=List.mem_map.1 hp;exact⟨k,hk,(Prod.mk.inj e1).1.symm,(Prod.mk.inj e1).2.symm⟩
theorem Ents.to{E:BE}{K:BK}{es:Array MapEntry}(h:Ents E K es){k:Nat}(hk:k∈E.sm):∃e∈es.toList,e.key=IN k∧e.val=PTR (K.blk k):=by
 have:=h.perm.mem_iff.2 (List.mem_map.2 ⟨((k:Int),K.blk k),List.mem_map.2 ⟨k,hk,rfl⟩,rfl⟩)
 obtain⟨e,he,e1⟩:=List.mem_map.1 this;exact⟨e,he,(Prod.mk.inj e1).1,(Prod.mk.inj e1).2⟩
theorem Zcr:∀{l:List Nat},l.Nodup→(l.map IN).Nodup
 | [],_=>List.nodup_nil
 | x :: l,h=>by
  rw[List.nodup_cons]at h;rw[List.map_cons,List.nodup_cons];refine⟨fun hm=>?_,Zcr h.2⟩
  obtain⟨y,hy,e⟩:=List.mem_map.1 hm;have:(y:Int)=(x:Int):=by simpa [IN] using e
  have:y=x:=by omega
  exact h.1 (this ▸ hy)
theorem Ents.key{E:BE}{K:BK}{es:Array MapEntry}(h:Ents E K es){e e':MapEntry}(he:e∈es.toList)(he':e'∈es.toList)(hk:e.key=e'.key):e=e':=by
 have hn:(es.toList.map (·.key)).Nodup:=by
  have h1:=h.perm.map (·.1);rw[List.map_map,List.map_map,List.map_map]at h1;have h2:(es.toList.map (·.key)).Perm (E.sm.map IN):=h1;exact h2.nodup_iff.2 (Zcr h.nodup)
 obtain⟨i,hi⟩:=List.getElem?_of_mem he;obtain⟨j,hj⟩:=List.getElem?_of_mem he';have hij:i=j:=Z1r hn (i:=i) (j:=j) (x:=e.key) (by rw[List.getElem?_map,hi];rfl) (by rw[List.getElem?_map,hj,hk];rfl)
 subst hij;rw[hi]at hj;exact Option.some.inj hj
structure Taken(E:BE)(es:Array MapEntry)(p:Nat→Bool)(seen:Array Nat)(ks:List Nat):Prop where
 nodup:ks.Nodup
 mem:∀k,k∈ks↔k∈E.sm∧p k=true∧∃e∈es.toList,e.key=IN k∧seen.contains e.born=true
theorem Taken.start(E:BE)(es:Array MapEntry)(p:Nat→Bool):Taken E es p #[] []:=⟨List.nodup_nil,fun k=>by simp⟩
theorem Zql{a b:Nat}(h:IN a=IN b):a=b:=by
 have:(a:Int)=(b:Int):=by simpa [IN] using h
 omega
theorem Taken.skip{E:BE}{K:BK}{es:Array MapEntry}{p:Nat→Bool}{seen:Array Nat}{ks:List Nat}(h:Taken E es p seen ks)(_hE:Ents E K es){clock:Nat}(hst:Stamped es clock){e:MapEntry}(he:e∈(leftOf es seen).toList){k:Nat}(hk:e.key=IN k)(hp:p k=false):Taken E es p (seen.push e.born) ks:=by
 refine⟨h.nodup,fun j=>?_⟩
 rw[h.mem];constructor
 ·rintro⟨h1,h2,e',h3,h4,h5⟩
  exact⟨h1,h2,e',h3,h4,by rw[contains_push,h5];rfl⟩
 ·rintro⟨h1,h2,e',h3,h4,h5⟩
  refine⟨h1,h2,e',h3,h4,?_⟩;rw[contains_push]at h5;rcases Bool.or_eq_true _ _ ▸ h5 with h6|h6
  ·exact h6
  ·have:=born_inj hst.2.1 h3 (mem_left he).1 (beq_iff_eq.1 h6)
   subst this;rw[hk]at h4;rw[←Zql h4,hp]at h2;cases h2
theorem Taken.push{E:BE}{K:BK}{es:Array MapEntry}{p:Nat→Bool}{seen:Array Nat}{ks:List Nat}(h:Taken E es p seen ks)(hE:Ents E K es){clock:Nat}(hst:Stamped es clock){e:MapEntry}(he:e∈(leftOf es seen).toList){k:Nat}(hks:k∈E.sm)(hk:e.key=IN k)(hp:p k=true):Taken E es p (seen.push e.born) (ks++[k]):=by
 have hnew:k∉ks:=fun hm=>by
  obtain⟨_,_,e',h3,h4,h5⟩:=(h.mem k).1 hm;have:=hE.key h3 (mem_left he).1 (h4.trans hk.symm);subst this;rw[(mem_left he).2]at h5;cases h5
 refine⟨List.nodup_append.2 ⟨h.nodup,List.nodup_cons.2 ⟨by simp,List.nodup_nil⟩,fun a ha b hb e2=>by rw[List.mem_singleton]at hb;subst hb;subst e2;exact hnew ha⟩,fun j=>?_⟩
 rw[List.mem_append,List.mem_singleton,h.mem];constructor
 ·rintro(⟨h1,h2,e',h3,h4,h5⟩|rfl)
  ·exact⟨h1,h2,e',h3,h4,by rw[contains_push,h5];rfl⟩
  ·exact⟨hks,hp,e,(mem_left he).1,hk,by rw[contains_push];simp⟩
 ·rintro⟨h1,h2,e',h3,h4,h5⟩
  rw[contains_push]at h5;rcases Bool.or_eq_true _ _ ▸ h5 with h6|h6
  ·exact .inl ⟨h1,h2,e',h3,h4,h6⟩
  ·have:=born_inj hst.2.1 h3 (mem_left he).1 (beq_iff_eq.1 h6)
   subst this;rw[hk]at h4;exact .inr (Zql h4).symm
theorem Taken.all{E:BE}{K:BK}{es:Array MapEntry}{p:Nat→Bool}{seen:Array Nat}{ks:List Nat}(h:Taken E es p seen ks)(hE:Ents E K es)(hr:E.sm.Pairwise fun x y=>x<y)(h0:(leftOf es seen).size=0):Z7s ks=E.sm.filter p:=by
 refine Zan h.nodup (fun k=>?_) (hr.filter _)
 rw[h.mem,List.mem_filter];constructor
 ·rintro⟨h1,h2,_⟩;exact⟨h1,h2⟩
 ·rintro⟨h1,h2⟩
  obtain⟨e,he,h3,_⟩:=hE.to h1;exact⟨h1,h2,e,he,h3,all_seen es seen h0 e he⟩
theorem Taken.len{E:BE}{es:Array MapEntry}{p:Nat→Bool}{seen:Array Nat}{ks:List Nat}(h:Taken E es p seen ks):ks.length≤E.sm.length:=Z1h h.nodup fun k hk=>((h.mem k).1 hk).1
end Go.Proofs.YtnmhaipjfpongacGreatDoor
namespace Go.Proofs.YtnmhaipjfpongacGreatDoor
open Go.ChangeShapes Go.WideShapes Go.ChangeAt Go.RowKit
open Go.MapKept (Stamped)
open Go.ChangeMaps (setBlock)
def RetNs(l:List Nat)(w:World)(e:Ending)(w':World):Prop:=∃v,e=.returned v∧RowI w.heap.size w' v l∧Ext w w'
theorem Zg4(g:Nat)(w:World)(P:Nat→Addr)(base:Nat)(E:BE)(K:BK)(s:BS)(h:Z0c w P base E K s)(p:Nat→Bool)(hr:E.sm.Pairwise fun x y=>x<y)(hl:E.sm.length≤1000)(eg:∀args w,(callFunc g args).run Tryz.prog w=.ok (.enter g args) w)
  (hp:∀w1,Ext w w1→∀k∈E.sm,Calls Tryz.prog g #[PTR K.b,PTR (K.blk k)] w1 (RetE (.bool (p k)) w1)) :
  Calls Tryz.prog 138 #[PTR K.b,.func (.func g) #[PTR K.b] #[]] w (RetNs (E.sm.filter p) w):=by
 have c1:=(h.cell 1).trans (rfl:_=some (Value.map (some K.lb)));obtain⟨es,clock,hb,hpm,_,_,hst⟩:=h.steps;have hrg:=run_range_map (P:=Tryz.prog) w 184 3 187 K.lb es clock Tryz.underlying184 hb;have HEN:Hid (Ents E K es):=Q0 ⟨hpm,hr.imp fun h=>Nat.ne_of_lt h⟩
 have HB:=Q0 hb;have HS:=Q0 hst;have HP:=Q0 hp;have HR:=Q0 hr;have HL:=Q0 hl;have hmr:K.lb≠w.heap.size:=Nat.ne_of_lt (Z03 hb);have HMR:=Q0 hmr;clear h hb hpm hst hp hr hl hmr;go_enter Tryz.func138,Tryz.ntmps138;go_wp2_with fail;go_loopw [5,6,7] (fun q _ _ w'=>∃(seen:Array Nat)(qv:Value)(ks:List Nat),qv=q∧Hid (Ext w w')∧Hid (w'.heap[w.heap.size]?=some (.mapIter (some K.lb) clock seen clock))∧Hid (RowI (w.heap.size+1) w' qv ks)∧Hid (Taken E es p seen ks)) (fun _ _ _ w'=>(leftOf es (w'.iterSeen w.heap.size)).size)
 case atStart=>exact⟨#[],_,[],rfl,Q0 (Only.alloc _ _ _),Q0 (MapKept.heap_alloc w _).1,Q0 (RowI.nil _ _),Q0 (Taken.start E es p)⟩
 case round=>
  clear hrg;obtain⟨seen,qv,ks,rfl,HX,HIT,HQ,HT⟩:=hrel;have law:=Zb1 (P:=Tryz.prog) (ty:=0) HIT.out (HX.out.heapOf HB.out (fun h=>h)) HMR.out HS.out
  rcases law with⟨h0,hrun⟩|⟨e,he,w3,ho3,hr3,hrun,hen⟩
  ·have hso:=Zfk wr (w.heap.size+1) qv ks HQ.out (by have:=HT.out.len;have:=HL.out;omega)
   rw[HT.out.all HEN.out HR.out h0]at hso;have HSO:=Q0 hso;clear hso h0;rcases HQ.out.cases with⟨rfl,hnil⟩|⟨g1,cp,rfl⟩
   ·clear hnil
    go_wp2_with fail;refine HSO.out.mono ?_
    rintro e w6 ⟨rfl,hr6,ho6⟩;have HF:Hid (Ext w w6):=Q0 (HX.out.trans ho6 (fun _ _ h=>h) (fun i hi e=>by cases e))
    have HR6:=Q0 (hr6.down (Nat.le_succ _));clear hr6 ho6;go_wp2_with fail;go_ret;exact⟨_,rfl,HR6.out,HF.out⟩
   ·go_wp2_with fail
    refine HSO.out.mono ?_;rintro e w6 ⟨rfl,hr6,ho6⟩;have HF:Hid (Ext w w6):=Q0 (HX.out.trans ho6 (fun _ _ h=>h) (fun i hi e=>by have:=HQ.out.base i e;omega))
    have HR6:=Q0 (hr6.down (Nat.le_succ _));clear hr6 ho6;go_wp2_with fail;go_ret;exact⟨_,rfl,HR6.out,HF.out⟩
  ·obtain⟨k,hks,hek,hev⟩:=HEN.out.of (mem_left he).1
   rw[hek,hev]at hrun hen;have HE2:=Q0 he;have HEK:=Q0 hek;have HKS:=Q0 hks;have hx3:Ext w w3:=HX.out.trans ho3 (fun _ _ h=>h) (fun i hi e=>by omega)
   have HX3:=Q0 hx3;have HIT3:=Q0 hr3;have HQ3:Hid (RowI (w.heap.size+1) w3 qv ks):=Q0 (ho3.row HQ.out (fun i e e2=>by have:=HQ.out.base i e;omega))
   have hpc:=HP.out w3 hx3 k hks;cases hpk:p k with
   | true=>
    rw[hpk]at hpc;have HPC:=Q0 hpc;have HT3:=Q0 (HT.out.push HEN.out HS.out he hks hek hpk);have HKL:Hid (ks.length≤1000000):=Q0 (by have:=HT.out.len;have:=HL.out;omega)
    clear he hek hev hks hx3 hr3 hpc hpk ho3;go_wp2_with fail;refine HPC.out.mono ?_;rintro e1 w4 ⟨rfl,ho4⟩;have HX4:=Q0 (HX3.out.then ho4);have HIT4:=Q0 (ho4.heapOf HIT3.out (fun h=>h))
    have HQ4:=Q0 (HQ3.out.ext ho4);clear ho4;go_wp2_with (at_builtin;refine Zl7 rfl (.tmp 21) (.tmp 23) w (w.heap.size+1) _ ks k w4 rfl rfl rfl rfl HQ4.out HKL.out (Z03 HIT4.out) HX4.out (Nat.le_succ _) ?_;intro g5 cap5 w5 HR5 HX5 HG5;have HIT5:=Q0 ((Only.of_grown HG5.out).heapOf HIT4.out (fun e=>by have:=HQ4.out.base _ e;omega)))
    go_roundw
    case rel=>exact⟨_,_,_,rfl,HX5,HIT5,HR5,HT3⟩
    case measure=>
     rw[Z0b HIT5.out,Z0b HIT.out];exact left_shrinks es seen _ HE2.out
   | false=>
    rw[hpk]at hpc;have HPC:=Q0 hpc;have HT3:=Q0 (HT.out.skip HEN.out HS.out he hek hpk);clear he hek hev hks hx3 hr3 hpc hpk ho3;go_wp2_with fail;refine HPC.out.mono ?_;rintro e1 w4 ⟨rfl,ho4⟩;have HX4:=Q0 (HX3.out.then ho4);have HIT4:=Q0 (ho4.heapOf HIT3.out (fun h=>h))
    have HQ4:=Q0 (HQ3.out.ext ho4);clear ho4;go_wp2_with fail;go_roundw
    case rel=>exact⟨_,_,_,rfl,HX4,HIT4,HQ4,HT3⟩
    case measure=>
     rw[Z0b HIT4.out,Z0b HIT.out];exact left_shrinks es seen _ HE2.out
theorem Zh0:∀args w,(callFunc 120 args).run Tryz.prog w=.ok (.enter 120 args) w:=fun args w=>by kernel_rfl
def Z37(E:BE)(s:BS):List Nat:=E.sm.filter (Z0n E s)
section
variable {w:World}{P:Nat→Addr}{base:Nat}{E:BE}{K:BK}{s:BS}{o:List Nat}{is:Nat→Bool}
theorem Zcl(h:Z0c w P base E K s)(hW:Z0w E o is)(hl:∀i∈E.sm,(E.rule i).ins.length≤900000)(hn:E.sm.length≤1000) :
  Calls Tryz.prog 132 #[PTR K.b] w (RetNs (Z37 E s) w):=by
 have HN:=Q0 (Zg4 120 w P base E K s h (Z0n E s) hW.rise hn Zh0 (fun w1 hx k hk=>Z3o w1 P base E K s o is k hk (h.ext hx) hW (hl k hk)))
 change Hid (Calls _ _ _ _ (RetNs (Z37 E s) w))at HN
 generalize Z37 E s=q at HN ⊢;clear h hW hl hn;go_enter Tryz.func132,Tryz.ntmps132;go_wp2_with fail;refine HN.out.mono ?_;rintro e w1 ⟨v,rfl,hr,ho⟩;have HR:=Q0 hr;have HO:=Q0 ho;obtain⟨a,c,rfl,_,_,_⟩:=hr.rd;clear hr ho;go_wp2_with fail;go_ret;exact⟨_,rfl,HR.out,HO.out⟩
end
end Go.Proofs.YtnmhaipjfpongacGreatDoor
namespace Go.Proofs.YtnmhaipjfpongacGreatDoor
open Go.ChangeShapes Go.WideShapes Go.ChangeAt Go.RowKit
open Go.MapKept (Stamped)
open Go.ChangeMaps (setBlock)
def cRan(s:BS)(k:Nat):Bool:=s.st k==2&&!s.hit k
def cHit(s:BS)(k:Nat):Bool:=s.st k==2&&s.hit k
def Zn9(s:BS)(k:Nat):Bool:=s.st k==3
def Zn8(s:BS)(k:Nat):Bool:=s.st k==4
abbrev cntV(s:BS)(ks:List Nat):Array Value:=#[IN (ks.countP (cRan s)),IN (ks.countP (cHit s)),IN (ks.countP (Zn9 s)),IN (ks.countP (Zn8 s))]
def Zbu(s:BS)(ks:List Nat)(a b c d:Nat):Prop:=a=ks.countP (cRan s)∧b=ks.countP (cHit s)∧c=ks.countP (Zn9 s)∧d=ks.countP (Zn8 s)
theorem cnt_snoc{s:BS}{ks:List Nat}{a b c d k:Nat}(h:Zbu s ks a b c d):Zbu s (ks++[k]) (a+if cRan s k then 1 else 0) (b+if cHit s k then 1 else 0) (c+if Zn9 s k then 1 else 0) (d+if Zn8 s k then 1 else 0):=by
 obtain⟨rfl,rfl,rfl,rfl⟩:=h;unfold Zbu;simp only[List.countP_append,List.countP_cons,List.countP_nil,Nat.zero_add];exact⟨trivial,trivial,trivial,trivial⟩
theorem cnt_le{s:BS}{ks:List Nat}{a b c d:Nat}(h:Zbu s ks a b c d):a≤ks.length∧b≤ks.length∧c≤ks.length∧d≤ks.length:=by
 obtain⟨rfl,rfl,rfl,rfl⟩:=h;exact⟨List.countP_le_length,List.countP_le_length,List.countP_le_length,List.countP_le_length⟩
theorem Taken.perm{E:BE}{K:BK}{es:Array MapEntry}{seen:Array Nat}{ks:List Nat}(h:Taken E es (fun _=>true) seen ks)(hE:Ents E K es)(h0:(leftOf es seen).size=0):ks.Perm E.sm:=by
 refine(List.perm_ext_iff_of_nodup h.nodup hE.nodup).2 fun k=>?_
 rw[h.mem];constructor
 ·rintro⟨h1,_⟩;exact h1
 ·intro h1
  obtain⟨e,he,h3,_⟩:=hE.to h1;exact⟨h1,rfl,e,he,h3,all_seen es seen h0 e he⟩
theorem cnt_perm{s:BS}{l ks:List Nat}{a b c d:Nat}(h:Zbu s ks a b c d)(hp:ks.Perm l):#[IN a,IN b,IN c,IN d]=cntV s l:=by
 obtain⟨rfl,rfl,rfl,rfl⟩:=h;rw[hp.countP_eq,hp.countP_eq,hp.countP_eq,hp.countP_eq]
def RetCnt(v:Array Value)(w:World)(e:Ending)(w':World):Prop:=e=.returned (.agg v)∧Ext w w'
theorem Zea(a:Nat):(.int .i64 ((a:Int)+1):Value)=IN (a+1):=by
 unfold IN
 push_cast
 rfl
theorem Za5{w w':World}(h:Ext w w'){b:Nat}(k:Nat)(v:Value)(hb:w.heap.size≤b):Ext w (w'.setCell ⟨b,k,none⟩ v):=h.trans (Only.set (p:=fun i=>i=b) v rfl) (fun _ _ h=>h) (fun i hi e=>by omega)
theorem Zn5(w:World)(P:Nat→Addr)(base:Nat)(E:BE)(K:BK)(s:BS)(h:Z0c w P base E K s)(hr:E.sm.Pairwise fun x y=>x<y)(hl:E.sm.length≤1000)(hI:BInv E s) :
  Calls Tryz.prog 135 #[PTR K.b] w (RetCnt (cntV s E.sm) w):=by
 have hx2:Ext w ((w.alloc (.cells #[.int .i64 0,.int .i64 0,.int .i64 0,.int .i64 0] 70 (0,0))).alloc (.cells #[.int .i64 0,.int .i64 0,.int .i64 0,.int .i64 0] 70 (0,0))):=(Only.alloc _ _ _).thenAlloc _;have hsz:((w.alloc (.cells #[.int .i64 0,.int .i64 0,.int .i64 0,.int .i64 0] 70 (0,0))).alloc (.cells #[.int .i64 0,.int .i64 0,.int .i64 0,.int .i64 0] 70 (0,0))).heap.size=w.heap.size+2:=by simp
 obtain⟨es,clock,hb,hpm,_,_,hst⟩:=h.steps;have c1:=((h.ext hx2).cell 1).trans (rfl:_=some (Value.map (some K.lb)));have hrg:=run_range_map (P:=Tryz.prog) _ 184 3 187 K.lb es clock Tryz.underlying184 (hx2.heapOf hb (fun h=>h))
 have HEN:Hid (Ents E K es):=Q0 ⟨hpm,hr.imp fun h=>Nat.ne_of_lt h⟩
 have HB:=Q0 hb;have HS:=Q0 hst;have HL:=Q0 hl;have HBL:=Q0 h;have HI:=Q0 hI;have hlb:=Z03 hb;have HMR:Hid (K.lb≠w.heap.size+2):=Q0 (by omega)
 have HX3:Hid (Ext w (((w.alloc (.cells #[.int .i64 0,.int .i64 0,.int .i64 0,.int .i64 0] 70 (0,0))).alloc (.cells #[.int .i64 0,.int .i64 0,.int .i64 0,.int .i64 0] 70 (0,0))).alloc (.mapIter (some K.lb) clock #[] clock))):=Q0 (hx2.thenAlloc _);have HRC3:Hid ((((w.alloc (.cells #[.int .i64 0,.int .i64 0,.int .i64 0,.int .i64 0] 70 (0,0))).alloc (.cells #[.int .i64 0,.int .i64 0,.int .i64 0,.int .i64 0] 70 (0,0))).alloc (.mapIter (some K.lb) clock #[] clock)).heap[w.heap.size]?=some (.cells #[.int .i64 0,.int .i64 0,.int .i64 0,.int .i64 0] 70 (0,0))):=Q0 (((Only.alloc (fun _=>False) _ _).thenAlloc _).heapOf (MapKept.heap_alloc w _).1 (fun h=>h))
 have HCC3:Hid ((((w.alloc (.cells #[.int .i64 0,.int .i64 0,.int .i64 0,.int .i64 0] 70 (0,0))).alloc (.cells #[.int .i64 0,.int .i64 0,.int .i64 0,.int .i64 0] 70 (0,0))).alloc (.mapIter (some K.lb) clock #[] clock)).heap[w.heap.size+1]?=some (.cells #[.int .i64 0,.int .i64 0,.int .i64 0,.int .i64 0] 70 (0,0))):=Q0 (by
  have h:=(Only.alloc (fun _=>False) _ (.mapIter (some K.lb) clock #[] clock)).heapOf (MapKept.heap_alloc (w.alloc (.cells #[.int .i64 0,.int .i64 0,.int .i64 0,.int .i64 0] 70 (0,0))) (.cells #[.int .i64 0,.int .i64 0,.int .i64 0,.int .i64 0] 70 (0,0))).1 (fun h=>h)
  simpa using h)
 have HIT3:Hid ((((w.alloc (.cells #[.int .i64 0,.int .i64 0,.int .i64 0,.int .i64 0] 70 (0,0))).alloc (.cells #[.int .i64 0,.int .i64 0,.int .i64 0,.int .i64 0] 70 (0,0))).alloc (.mapIter (some K.lb) clock #[] clock)).heap[w.heap.size+2]?=some (.mapIter (some K.lb) clock #[] clock)):=Q0 (by
  have h:=(MapKept.heap_alloc ((w.alloc (.cells #[.int .i64 0,.int .i64 0,.int .i64 0,.int .i64 0] 70 (0,0))).alloc (.cells #[.int .i64 0,.int .i64 0,.int .i64 0,.int .i64 0] 70 (0,0))) (.mapIter (some K.lb) clock #[] clock)).1;simpa using h)
 have HSZ:=Q0 hsz;clear h hb hpm hst hr hl hI hx2 hsz hlb;go_enter Tryz.func135,Tryz.ntmps135;go_wp2_with fail;go_loopw [5] (fun _ w'=>∃(seen:Array Nat)(ks:List Nat)(a b c d:Nat),Hid (Ext w w')∧Hid (w'.heap[w.heap.size+2]?=some (.mapIter (some K.lb) clock seen clock))∧Hid (w'.heap[w.heap.size+1]?=some (.cells #[IN a,IN b,IN c,IN d] 70 (0,0)))∧Hid (w'.heap[w.heap.size]?=some (.cells #[.int .i64 0,.int .i64 0,.int .i64 0,.int .i64 0] 70 (0,0)))∧Hid (Taken E es (fun _=>true) seen ks)∧Hid (Zbu s ks a b c d)) (fun _ w'=>(leftOf es (w'.iterSeen (w.heap.size+2))).size)
 case atStart=>exact⟨#[],[],0,0,0,0,HX3,HIT3,HCC3,HRC3,Q0 (Taken.start E es (fun _=>true)),Q0 ⟨rfl,rfl,rfl,rfl⟩⟩
 case round=>
  clear hrg c1 HX3 HIT3 HCC3 HRC3;obtain⟨seen,ks,a,b,c,d,HX,HIT,HCC,HRC,HT,HCN⟩:=hrel;have law:=Zb1 (P:=Tryz.prog) (ty:=0) HIT.out (HX.out.heapOf HB.out (fun h=>h)) HMR.out HS.out
  rcases law with⟨h0,hrun⟩|⟨e,he,w3,ho3,hr3,hrun,hen⟩
  ·have HEND:=Q0 (cnt_perm HCN.out (HT.out.perm HEN.out h0))
   have q0:=(Z00 HCC.out 0).trans (rfl:_=some (IN a));have q1:=(Z00 HCC.out 1).trans (rfl:_=some (IN b));have q2:=(Z00 HCC.out 2).trans (rfl:_=some (IN c));have q3:=(Z00 HCC.out 3).trans (rfl:_=some (IN d));have f0:=Z02 HRC.out 0;have f1:=Z02 HRC.out 1;have f2:=Z02 HRC.out 2;have f3:=Z02 HRC.out 3;have r0:=(Z00 HRC.out 0).trans (rfl:_=some (Value.int .i64 0));have r1:=(Z00 HRC.out 1).trans (rfl:_=some (Value.int .i64 0));have r2:=(Z00 HRC.out 2).trans (rfl:_=some (Value.int .i64 0));have r3:=(Z00 HRC.out 3).trans (rfl:_=some (Value.int .i64 0));clear h0;go_wp2_with fail;refine bodyPost_ret (v:=.agg (cntV s E.sm)) ?_ rfl ⟨rfl,Za5 (Za5 (Za5 (Za5 HX.out _ _ (Nat.le_refl _)) _ _ (Nat.le_refl _)) _ _ (Nat.le_refl _)) _ _ (Nat.le_refl _)⟩;have hres:Tryz.f135.results = #[.cell 2 70]:=by kernel_rfl
   have h1:=Z01 HRC.out 0 (IN a);have h2:=Z01 h1 1 (IN b);have h3:=Z01 h2 2 (IN c);have h4:=Z01 h3 3 (IN d);have e0:=(Z00 h4 0).trans (rfl:_=some (IN a));have e1:=(Z00 h4 1).trans (rfl:_=some (IN b));have e2:=(Z00 h4 2).trans (rfl:_=some (IN c));have e3:=(Z00 h4 3).trans (rfl:_=some (IN d));rw[←HEND.out];clear h1 h2 h3 h4 q0 q1 q2 q3 f0 f1 f2 f3 r0 r1 r2 r3;simp only[results,hres];go_simp
  ·obtain⟨k,hks,hek,hev⟩:=HEN.out.of (mem_left he).1
   rw[hek,hev]at hrun hen;have HE2:=Q0 he;have HX3:Hid (Ext w w3):=Q0 (HX.out.trans ho3 (fun _ _ h=>h) (fun i hi e=>by omega))
   have HIT3:=Q0 hr3;have hcc3:=ho3.heapOf HCC.out (by omega)
   have HRC3:=Q0 (ho3.heapOf HRC.out (by omega))
   have HT3:=Q0 (HT.out.push HEN.out HS.out he hks hek rfl);have hcn3:=cnt_snoc (k:=k) HCN.out;have hle:=cnt_le HCN.out;have hlen:ks.length≤1000:=by have:=HT.out.len;have:=HL.out;omega
   have t4:=(HX3.out.cellOf (HBL.out.stepCell hks 4) (fun h=>h)).trans (rfl:_=some (IN (s.st k)))
   have t5:=(HX3.out.cellOf (HBL.out.stepCell hks 5) (fun h=>h)).trans (rfl:_=some (Value.bool (s.st k==2&&s.hit k)))
   have q0:=(Z00 hcc3 0).trans (rfl:_=some (IN a));have q1:=(Z00 hcc3 1).trans (rfl:_=some (IN b));have q2:=(Z00 hcc3 2).trans (rfl:_=some (IN c));have q3:=(Z00 hcc3 3).trans (rfl:_=some (IN d));have g0:=Z02 hcc3 0;have g1:=Z02 hcc3 1;have g2:=Z02 hcc3 2;have g3:=Z02 hcc3 3;have hz0:(a:Int)≤1000:=by omega
   have hz1:(b:Int)≤1000:=by omega
   have hz2:(c:Int)≤1000:=by omega
   have hz3:(d:Int)≤1000:=by omega
   have hn4:=HI.out.rng k hks;unfold cRan cHit Zn9 Zn8 at hcn3;have HCC3:=Q0 hcc3;generalize s.st k=n at t4 t5 hcn3 hn4;generalize s.hit k=hh at t5 hcn3;clear he hek hev hks hr3 ho3 hcc3 hle hlen;have hcs:(n=2∧hh=true)∨(n=2∧hh=false)∨n=3∨n=4∨n=1:=by
    cases hh <;> simp <;> omega
   clear hn4;rcases hcs with⟨rfl,rfl⟩|⟨rfl,rfl⟩|rfl|rfl|rfl
   ·have HCN3:Hid (Zbu s (ks++[k]) a (b+1) c d):=Q0 (by simpa using hcn3)
    clear hcn3;have HCC4:Hid ((w3.setCell ⟨w.heap.size+1,1,none⟩ (.int .i64 ((b:Int)+1))).heap[w.heap.size+1]?=some (.cells #[IN a,IN (b+1),IN c,IN d] 70 (0,0))):=Q0 ((Z01 HCC3.out 1 _).trans (by rw[Zea];rfl))
    have hs:Only (fun i=>i=w.heap.size+1) w3 (w3.setCell ⟨w.heap.size+1,1,none⟩ (.int .i64 ((b:Int)+1))):=Only.set _ rfl
    have HRC4:=Q0 (hs.heapOf HRC3.out (by omega))
    have HIT4:=Q0 (hs.heapOf HIT3.out (by omega))
    have HX4:Hid (Ext w (w3.setCell ⟨w.heap.size+1,1,none⟩ (.int .i64 ((b:Int)+1)))):=Q0 (HX3.out.trans hs (fun _ _ h=>h) (fun i hi e=>by omega))
    clear hs;clear HCC3 HRC3 HX3;go_wp2_with fail;go_roundw
    case rel=>exact⟨_,_,_,_,_,_,HX4,HIT4,HCC4,HRC4,HT3,HCN3⟩
    case measure=>
     rw[Z0b HIT4.out,Z0b HIT.out];exact left_shrinks es seen _ HE2.out
   ·have HCN3:Hid (Zbu s (ks++[k]) (a+1) b c d):=Q0 (by simpa using hcn3)
    clear hcn3;have HCC4:Hid ((w3.setCell ⟨w.heap.size+1,0,none⟩ (.int .i64 ((a:Int)+1))).heap[w.heap.size+1]?=some (.cells #[IN (a+1),IN b,IN c,IN d] 70 (0,0))):=Q0 ((Z01 HCC3.out 0 _).trans (by rw[Zea];rfl))
    have hs:Only (fun i=>i=w.heap.size+1) w3 (w3.setCell ⟨w.heap.size+1,0,none⟩ (.int .i64 ((a:Int)+1))):=Only.set _ rfl
    have HRC4:=Q0 (hs.heapOf HRC3.out (by omega))
    have HIT4:=Q0 (hs.heapOf HIT3.out (by omega))
    have HX4:Hid (Ext w (w3.setCell ⟨w.heap.size+1,0,none⟩ (.int .i64 ((a:Int)+1)))):=Q0 (HX3.out.trans hs (fun _ _ h=>h) (fun i hi e=>by omega))
    clear hs;clear HCC3 HRC3 HX3;go_wp2_with fail;go_roundw
    case rel=>exact⟨_,_,_,_,_,_,HX4,HIT4,HCC4,HRC4,HT3,HCN3⟩
    case measure=>
     rw[Z0b HIT4.out,Z0b HIT.out];exact left_shrinks es seen _ HE2.out
   ·have HCN3:Hid (Zbu s (ks++[k]) a b (c+1) d):=Q0 (by simpa using hcn3)
    clear hcn3;have HCC4:Hid ((w3.setCell ⟨w.heap.size+1,2,none⟩ (.int .i64 ((c:Int)+1))).heap[w.heap.size+1]?=some (.cells #[IN a,IN b,IN (c+1),IN d] 70 (0,0))):=Q0 ((Z01 HCC3.out 2 _).trans (by rw[Zea];rfl))
    have hs:Only (fun i=>i=w.heap.size+1) w3 (w3.setCell ⟨w.heap.size+1,2,none⟩ (.int .i64 ((c:Int)+1))):=Only.set _ rfl
    have HRC4:=Q0 (hs.heapOf HRC3.out (by omega))
    have HIT4:=Q0 (hs.heapOf HIT3.out (by omega))
    have HX4:Hid (Ext w (w3.setCell ⟨w.heap.size+1,2,none⟩ (.int .i64 ((c:Int)+1)))):=Q0 (HX3.out.trans hs (fun _ _ h=>h) (fun i hi e=>by omega))
    clear hs;clear HCC3 HRC3 HX3;go_wp2_with fail;go_roundw
    case rel=>exact⟨_,_,_,_,_,_,HX4,HIT4,HCC4,HRC4,HT3,HCN3⟩
    case measure=>
     rw[Z0b HIT4.out,Z0b HIT.out];exact left_shrinks es seen _ HE2.out
   ·have HCN3:Hid (Zbu s (ks++[k]) a b c (d+1)):=Q0 (by simpa using hcn3)
    clear hcn3;have HCC4:Hid ((w3.setCell ⟨w.heap.size+1,3,none⟩ (.int .i64 ((d:Int)+1))).heap[w.heap.size+1]?=some (.cells #[IN a,IN b,IN c,IN (d+1)] 70 (0,0))):=Q0 ((Z01 HCC3.out 3 _).trans (by rw[Zea];rfl))
    have hs:Only (fun i=>i=w.heap.size+1) w3 (w3.setCell ⟨w.heap.size+1,3,none⟩ (.int .i64 ((d:Int)+1))):=Only.set _ rfl
    have HRC4:=Q0 (hs.heapOf HRC3.out (by omega))
    have HIT4:=Q0 (hs.heapOf HIT3.out (by omega))
    have HX4:Hid (Ext w (w3.setCell ⟨w.heap.size+1,3,none⟩ (.int .i64 ((d:Int)+1)))):=Q0 (HX3.out.trans hs (fun _ _ h=>h) (fun i hi e=>by omega))
    clear hs;clear HCC3 HRC3 HX3;go_wp2_with fail;go_roundw
    case rel=>exact⟨_,_,_,_,_,_,HX4,HIT4,HCC4,HRC4,HT3,HCN3⟩
    case measure=>
     rw[Z0b HIT4.out,Z0b HIT.out];exact left_shrinks es seen _ HE2.out
   ·have HCN3:Hid (Zbu s (ks++[k]) a b c d):=Q0 (by simpa using hcn3)
    clear hcn3;have HCC4:=HCC3;have HRC4:=HRC3;have HIT4:=HIT3;have HX4:=HX3;clear HCC3 HRC3 HX3;go_wp2_with fail;go_roundw
    case rel=>exact⟨_,_,_,_,_,_,HX4,HIT4,HCC4,HRC4,HT3,HCN3⟩
    case measure=>
     rw[Z0b HIT4.out,Z0b HIT.out];exact left_shrinks es seen _ HE2.out
end Go.Proofs.YtnmhaipjfpongacGreatDoor
