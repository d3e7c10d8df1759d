/- A part of this claim's proof;each theorem bears its own conditions. -/
import Derived.Test.YtnmhaipjfpongacGreatDoorPR16
set_option maxRecDepth 100000
set_option maxHeartbeats 4000000
namespace Go.Proofs.YtnmhaipjfpongacGreatDoor
open Go.ChangeShapes Go.WideShapes Go.ChangeAt Go.RowKit
inductive Reach (nd:Nat→Nat→Bool) (ks:List Nat):Nat→Prop
 | root {k:Nat}:k∈ks→Reach nd ks k
 | step {i j:Nat}:Reach nd ks i→nd i j=true→Reach nd ks j
theorem Zp8{α:Type}(p:α→Bool)(l:List α):(∃k:Nat,idx p l=(k:Int)∧k<l.length∧l.any p=true)∨(idx p l=-1∧l.any p=false):=by
 unfold idx;cases h:l.findIdx? p with
 | none=>
  rw[List.findIdx?_eq_none_iff]at h;refine .inr ⟨rfl,?_⟩;rw[List.any_eq_false];intro x hx;simpa using h x hx
 | some i=>
  rw[List.findIdx?_eq_some_iff_getElem]at h;obtain⟨h1,h2,_⟩:=h;exact .inl ⟨i,rfl,h1,List.any_eq_true.2 ⟨l[i],List.getElem_mem h1,h2⟩⟩
def Z35(l:List Rule)(s:B):Bool:=l.any fun r=>r.out==s
def Z82(l:List Rule)(s:B):Nat:=(idx (fun r=>r.out==s) l).toNat
def Z57(l:List Rule)(outs:List B):Option Nat:=outs.findIdx? fun s=>!Z35 l s
def Z0e(l:List Rule)(outs:List B):Nat×Int:=if (Z04 l).1≠0 then Z04 l else match Z57 l outs with|some i=>(6,(i:Int))|none=>(0,-1)
def Z5p(l:List Rule)(outs:List B):List Nat:=outs.map (Z82 l)
def Zl3(n:Nat)(nd:Nat→Nat→Bool)(ks out:List Nat):Prop:=∃N:Nat→Bool,out=(List.range n).filter N∧∀i,i<n→(N i=true↔Reach nd ks i)
def Zf3(P:Nat→Addr)(l:List Rule)(outs:List B)(w:World)(e:Ending)(w':World):Prop:=
 ∃v ev out,e=.returned (.tuple #[v,ev])∧RowI w.heap.size w' v out∧Z25 w' P (Z0e l outs) ev∧Ext w w'∧(((Z0e l outs).1≠0∧out=[])∨((Z0e l outs).1=0∧Zl3 l.length (Z07 l) (Z5p l outs) out))
theorem Zpy{l:List Rule}{outs:List B}{t:Nat}{s:B}(hs:outs[t]?=some s)(h:Z35 l s=false)(hb:∀x∈outs.take t,Z35 l x=true):Z57 l outs=some t:=by
 unfold Z57;rw[List.findIdx?_eq_some_iff_getElem];obtain⟨h1,h2⟩:=Q2 hs;refine⟨h1,by rw[h2,h];rfl,fun j hj=>?_⟩
 have:=hb outs[j] (List.mem_take_iff_getElem.2 ⟨j,by omega,rfl⟩)
 rw[this];decide
theorem Zex{l:List Rule}{outs:List B}(hb:∀x∈outs,Z35 l x=true):Z57 l outs=none:=by
 unfold Z57;rw[List.findIdx?_eq_none_iff];intro x hx;rw[hb x hx];rfl
structure Bfs(n:Nat)(nd:Nat→Nat→Bool)(ks td ns:List Nat):Prop where
 nodup:ns.Nodup
 nlt:∀i∈ns,i<n
 tlt:∀i∈td,i<n
 rn:∀i∈ns,Reach nd ks i
 rt:∀i∈td,Reach nd ks i
 root:∀k∈ks,k∈ns∨k∈td
 closed:∀i∈ns,∀j,nd i j=true→j∈ns∨j∈td
 len:td.length≤ks.length+ns.length*n
theorem Bfs.start{n:Nat}{nd:Nat→Nat→Bool}{ks:List Nat}(h:∀k∈ks,k<n):Bfs n nd ks ks []:=
 ⟨List.nodup_nil,by simp,h,by simp,fun i hi=>.root hi,fun k hk=>.inr hk,by simp,by simp⟩
theorem Bfs.old{n:Nat}{nd:Nat→Nat→Bool}{ks td ns:List Nat}{k:Nat}(h:Bfs n nd ks (k :: td) ns)(hk:k∈ns):Bfs n nd ks td ns:=by
 have key:∀j,j∈ns∨j∈k :: td→j∈ns∨j∈td:=fun j hj=>by
  rcases hj with hj|hj
  ·exact .inl hj
  ·rcases List.mem_cons.1 hj with rfl|hj
   ·exact .inl hk
   ·exact .inr hj
 have:=h.len
 rw[List.length_cons]at this;exact⟨h.nodup,h.nlt,fun i hi=>h.tlt i (.tail _ hi),h.rn,fun i hi=>h.rt i (.tail _ hi),fun k' hk'=>key _ (h.root k' hk'),fun i hi j hj=>key _ (h.closed i hi j hj),by omega⟩
theorem Zep(n:Nat)(nd:Nat→Nat→Bool)(k:Nat):(Z24 n nd k).length≤n:=by
 unfold Z24;have:=List.length_filter_le (nd k) (List.range n);rw[List.length_range]at this;exact this
theorem Bfs.new{n:Nat}{nd:Nat→Nat→Bool}{ks td ns:List Nat}{k:Nat}(hnd:∀i j,nd i j=true→j<n)(h:Bfs n nd ks (k :: td) ns)(hk:k∉ns):Bfs n nd ks (td++Z24 n nd k) (k :: ns):=by
 have hkr:=h.rt k (.head _);have key:∀j,j∈ns∨j∈k :: td→j∈k :: ns∨j∈td++Z24 n nd k:=fun j hj=>by
  rcases hj with hj|hj
  ·exact .inl (.tail _ hj)
  ·rcases List.mem_cons.1 hj with rfl|hj
   ·exact .inl (.head _)
   ·exact .inr (List.mem_append.2 (.inl hj))
 have hl:=h.len;have he:=Zep n nd k;rw[List.length_cons]at hl;refine⟨List.nodup_cons.2 ⟨hk,h.nodup⟩,fun i hi=>?_,fun i hi=>?_,fun i hi=>?_,fun i hi=>?_,fun k' hk'=>key _ (h.root k' hk'),fun i hi j hj=>?_,?_⟩
 ·rcases List.mem_cons.1 hi with rfl|hi
  ·exact h.tlt _ (.head _)
  ·exact h.nlt i hi
 ·rcases List.mem_append.1 hi with hi|hi
  ·exact h.tlt i (.tail _ hi)
  ·exact(Z3l.1 hi).1
 ·rcases List.mem_cons.1 hi with rfl|hi
  ·exact hkr
  ·exact h.rn i hi
 ·rcases List.mem_append.1 hi with hi|hi
  ·exact h.rt i (.tail _ hi)
  ·exact .step hkr (Z3l.1 hi).2
 ·rcases List.mem_cons.1 hi with rfl|hi
  ·exact .inr (List.mem_append.2 (.inr (Z3l.2 ⟨hnd _ _ hj,hj⟩)))
  ·exact key _ (h.closed i hi j hj)
 ·rw[List.length_append,List.length_cons,Nat.add_mul,Nat.one_mul]
  omega
theorem Bfs.many{n:Nat}{nd:Nat→Nat→Bool}{ks td ns:List Nat}(h:Bfs n nd ks td ns):ns.length≤n:=by
 have:=Z1h h.nodup (b:=List.range n) (fun i hi=>List.mem_range.2 (h.nlt i hi))
 rwa [List.length_range]at this
theorem Bfs.done{n:Nat}{nd:Nat→Nat→Bool}{ks ns:List Nat}(h:Bfs n nd ks [] ns)(i:Nat):decide (i∈ns)=true↔Reach nd ks i:=by
  rw[decide_eq_true_eq];refine⟨h.rn i,fun hr=>?_⟩
  induction hr with
  | root hk=>
     rcases h.root _ hk with h1|h1
     · exact h1
     · simp at h1
  | step _ hj ih=>
     rcases h.closed _ ih _ hj with h1|h1
     · exact h1
     · simp at h1
def Z3h(n:Nat)(td ns:List Nat):Nat:=(n-ns.length)*(n+1)+td.length
theorem Zpw{n:Nat}{td ns:List Nat}{k:Nat}{e:List Nat}(he:e.length≤n)(hn:ns.length+1≤n):Z3h n (td++e) (k :: ns)<Z3h n (k :: td) ns:=by
 unfold Z3h;rw[List.length_append,List.length_cons,List.length_cons];obtain⟨d,hd⟩:∃d,n-ns.length=d+1:=⟨n-ns.length-1,by omega⟩
 rw[hd,show n-(ns.length+1)=d by omega,Nat.add_mul,Nat.one_mul]
 omega
theorem Zgw(p:Nat→Bool)(i:Nat):(List.range (i+1)).filter p=(List.range i).filter p++(if p i then [i]else []):=by
 rw[List.range_succ,List.filter_append];congr 1;cases h:p i <;> simp[List.filter,h]
def Zhm(L:List (Int×Bool))(ns:List Nat):Prop:=∀k:Nat,L.lookup (k:Int)=if k∈ns then some true else none
theorem Z4w{k s:Int}:∀(L:List (Int×Bool)),s≠k→(L.filter fun p=>!(p.1==k)).lookup s=L.lookup s
 | [],_=>rfl
 | (a,x) :: L,h=>by
  by_cases ha:a=k
  ·subst ha
   have hs:(s==a)=false:=Q3 h
   rw[List.filter_cons_of_neg (by simp),Z4w L h,List.lookup,hs]
  ·rw[List.filter_cons_of_pos (by simpa using ha)]
   simp only[List.lookup];rw[Z4w L h]
theorem Zhm.more{L:List (Int×Bool)}{ns:List Nat}(h:Zhm L ns)(k:Nat):Zhm (((k:Int),true) :: L.filter fun p=>!(p.1==(k:Int))) (k :: ns):=by
 intro i
 by_cases e:i=k
 ·subst e
  rw[if_pos (.head _)];simp[List.lookup]
 ·have hne:(i:Int)≠(k:Int):=by omega
  have hs:((i:Int)==(k:Int))=false:=Q3 hne
  rw[List.lookup,hs];simp only;rw[Z4w L hne,h i];congr 1;simp[e]
structure Zbw(w wr:World)(mb bq:Nat)(L:List (Int×Bool))(v:Value)(td ns:List Nat):Prop where
 ext:Ext w wr
 map:KMap (.int .i64) I (fun b:Bool=>.bool b) wr mb L
 q:QI bq wr v td
 lo:w.heap.size≤mb∧mb<bq∧bq≤wr.heap.size
 look:Zhm L ns
theorem Zbw.marked{w wr w':World}{mb bq:Nat}{L L':List (Int×Bool)}{v v':Value}{td td' ns ns':List Nat}(h:Zbw w wr mb bq L v td ns)(hm:KMap (.int .i64) I (fun b:Bool=>.bool b) w' mb L')(ho:Only (fun i=>i=mb) wr w')(hl:Zhm L' ns')(hq:QI bq wr v' td'):Zbw w w' mb bq L' v' td' ns':=by
 obtain⟨l1,l2,l3⟩:=h.lo;exact⟨h.ext.trans ho (fun _ _ h=>h) (fun i hi e=>by omega),hm,hq.later ho (fun b e=>by rw[e];exact l2),⟨l1,l2,Nat.le_trans l3 ho.size⟩,hl⟩
theorem Zbw.put{w wr w':World}{mb bq:Nat}{L:List (Int×Bool)}{v v':Value}{td td' ns:List Nat}(h:Zbw w wr mb bq L v td ns)(hq:QI bq w' v' td')(ho:Only (fun b=>bq≤b) wr w'):Zbw w w' mb bq L v' td' ns:=by
 obtain⟨l1,l2,l3⟩:=h.lo;exact⟨h.ext.trans ho (fun _ _ h=>h) (fun i hi e=>by omega),h.map.later ho (fun e=>by omega),hq,⟨l1,l2,Nat.le_trans l3 ho.size⟩,h.look⟩
theorem Zbw.cut{w wr:World}{mb bq:Nat}{L:List (Int×Bool)}{v v':Value}{td td' ns:List Nat}(h:Zbw w wr mb bq L v td ns)(hq:QI bq wr v' td'):Zbw w wr mb bq L v' td' ns:=⟨h.ext,h.map,hq,h.lo,h.look⟩
theorem Zen:∀args w,(callFunc 162 args).run Tryz.prog w=.ok (.enter 162 args) w:=fun args w=>by kernel_rfl
theorem Zjm(w:World)(r:Rule)(u:Value)(b:Nat)(o:B)(hu:Rd S w u r.ins)(h:w.cell? ⟨b,0,none⟩=some (S o)) :
  Calls Tryz.prog 162 #[AggR r u,.pointer (some ⟨b,0,none⟩)] w (RetE (.bool (r.out==o)) w):=by
 obtain⟨a,cap,rfl,_,_,_⟩:=hu;obtain⟨q,hq⟩:∃q,(r.out==o)=q:=⟨_,rfl⟩;rw[hq];have h1:=fun ob=>(Only.alloc (fun _=>False) w ob).cellOf h (fun h=>h)
 clear h;go_enter Tryz.func162,Tryz.ntmps162;go_wp2_with fail;go_ret;exact⟨rfl,Only.alloc _ _ _⟩
theorem Z76(w:World)(P:Nat→Addr)(l:List Rule)(outs:List B)(v vo:Value)(hv:RdR w v l)(hvo:Rd S w vo outs)(hno:outs.length≤1000)(hs:∀r∈l,Z3z 900000 r)(hV:PV w P [1,2,3,4,5,6,9]) :
  Calls Tryz.prog 93 #[v,vo] w (Zf3 P l outs w):=by
 have HSH:=Q0 (Zah w P l v hv hs (hV.sub (by decide)))
 have HRD:=Q0 hv;have HVV:=Q0 hV;have HSM:=Q0 (fun r hr=>(hs r hr).many)
 have HRO:=Q0 hvo;obtain⟨a,cap,rfl,_,_,_⟩:=hv;obtain⟨ao,co,rfl,hcapo,hmlo,hco⟩:=hvo;have HCO:=Q0 hco;have honz:(outs.length:Int)≤1000:=by omega
 clear hV hs hco;by_cases h0:(Z04 l).1=0
 ·have HR:=Q0 (Z2e.1 h0)
  have HE:=Q0 (fun W (hW:Ext w W)=>Zbi W l _ (HRD.out.ext hW) HR.out HSM.out)
  have HN0:=Q0 h0;have h40:=HR.out.1;have hlz:(l.length:Int)≤40:=by omega
  have HND:=Q0 (fun i j (h:Z07 l i j=true)=>(Z5g h).2)
  have HFB:Hid (∀e w' t,Z57 l outs=some t→(∃v ev,e=.returned (.tuple #[v,ev])∧v=.slice none 0 0∧(∃b,ev=.iface 226 (.pointer (some ⟨b,0,none⟩))∧w'.heap[b]?=some (.cells #[I (t:Int),errV (P 5)] 228 (0,0)))∧Ext w w')→Zf3 P l outs w e w'):=Q0 (by
   rintro e w' t hb ⟨v,ev,rfl,rfl,hev,hx⟩;have hf:Z0e l outs=(6,(t:Int)):=by unfold Z0e;rw[if_neg (by simpa using h0),hb]
   refine⟨_,ev,[],rfl,RowI.nil _ _,?_,hx,.inl ⟨by rw[hf];exact Nat.succ_ne_zero 5,rfl⟩⟩
   rw[hf];exact .inr (.inr ⟨Nat.succ_ne_zero 5,Int.natCast_nonneg _,hev⟩))
  have HFO:Hid (∀e w',Z57 l outs=none→(∃v out,e=.returned (.tuple #[v,.nilIface])∧RowI w.heap.size w' v out∧Ext w w'∧Zl3 l.length (Z07 l) (Z5p l outs) out)→Zf3 P l outs w e w'):=Q0 (by
   rintro e w' hb ⟨v,out,rfl,hr,hx,hok⟩;have hf:Z0e l outs=(0,-1):=by unfold Z0e;rw[if_neg (by simpa using h0),hb]
   refine⟨v,_,out,rfl,hr,?_,hx,.inr ⟨by rw[hf],hok⟩⟩
   rw[hf];exact Z25.nil _ _ _)
  clear h0;have hmm:=@run_makeMap Tryz.prog;go_enter Tryz.func93,Tryz.ntmps93;go_wp2_with fail;refine HSH.out.mono ?_;rintro e w1 ⟨ev,rfl,he,ho⟩;obtain rfl:=he.zero HN0.out;have HX1:=Q0 ho;clear he ho;go_wp2_with fail;refine(HE.out w1 HX1.out).mono ?_;rintro e w2 ⟨v2,rfl,hll,ho⟩;have HX2:=Q0 (HX1.out.then ho);have HLL:=Q0 hll;clear hll ho;have hc:=HLL.out;obtain⟨a2,c2,rfl,hcap,hml,hc⟩:=hc;have HC:Hid (∀i,i<l.length→∃b off u,a2=some ⟨b,off,none⟩∧Rd IN w2 u (Z24 l.length (Z07 l) i)∧w2.cell? ⟨b,off+i,none⟩=some u):=Q0 (fun i hi=>by
   obtain⟨b,off,h1,h2⟩:=hc (fun e=>by have:=congrArg List.length e;rw[List.length_map,List.length_range,List.length_nil]at this;omega)
   obtain⟨u,h3,h4⟩:=h2 i (Z24 l.length (Z07 l) i) (by rw[List.getElem?_map,List.getElem?_range hi];rfl)
   exact⟨b,off,u,h1,h3,h4⟩)
  rw[List.length_map,List.length_range]at HLL ⊢;clear hc hcap hml;go_wp2_with fail;clear hmm;have HM0:Hid (KMap (.int .i64) I (fun b:Bool=>.bool b) (w2.alloc (.map #[] 0)) w2.heap.size []):=Q0 (KMap.made w2 (.int .i64) I _)
  have HX3:Hid (Ext w2 (w2.alloc (.map #[] 0))):=Q0 (Only.alloc _ _ _);obtain⟨mb,hmb⟩:∃mb,mb=w2.heap.size:=⟨_,rfl⟩;have HB0:Hid (w2.heap.size≤mb∧mb+1≤(w2.alloc (.map #[] 0)).heap.size):=Q0 ⟨by omega,by rw[hmb];simp⟩
  generalize (w2.alloc (.map #[] 0))=wm at *;rw[←hmb]at HM0 ⊢;clear hmb;go_loopw [9,10,11,12,26] (fun q _ _ _ i wr=>∃(t:Nat)(qv:Value),qv=q∧t≤outs.length∧i=.int .i64 t∧Hid (RowI (mb+1) wr qv ((outs.take t).map (Z82 l)))∧Hid (∀x∈outs.take t,Z35 l x=true)∧Hid (∀k∈(outs.take t).map (Z82 l),k<l.length)∧Hid (Only (fun b=>mb+1≤b) wm wr)) (fun _ _ _ _ i _=>outs.length-(intOf i).toNat)
  case atStart=>exact⟨0,_,rfl,Nat.zero_le _,rfl,Q0 (RowI.nil _ _),Q0 (by simp),Q0 (by simp),Q0 (Only.refl _ _)⟩
  case round=>
   obtain⟨t,q,rfl,ht,rfl,HQ,HMA,HLT,HO⟩:=hrel;have HX:Hid (Ext w2 wr):=Q0 (HX3.out.trans HO.out (fun _ _ h=>h) (fun i hi e=>by have:=HB0.out;omega))
   by_cases hlt:t<outs.length
   ·have hltz:(t:Int)<(outs.length:Int):=by omega
    have ht0:(0:Int)≤(t:Int):=by omega
    obtain⟨b,off,rfl,hcell⟩:=HCO.out (by intro h;rw[h]at hlt;simp at hlt)
    obtain⟨s,hs⟩:∃y,outs[t]?=some y:=⟨_,Q1 hlt⟩;have d0:=(HX2.out.then HX.out).cellOf (hcell t s hs) (fun h=>h)
    have HS:=Q0 hs;have hk0:=(Z00 (MapKept.heap_alloc wr (.cells #[S s] 9 (0,0))).1 0).trans rfl;have hx4:Ext w (wr.alloc (.cells #[S s] 9 (0,0))):=(HX2.out.then HX.out).thenAlloc _;have hif:=Z65 162 (.pointer (some ⟨wr.heap.size,0,none⟩)) (fun x=>x.out==s) (wr.alloc (.cells #[S s] 9 (0,0))) (.slice a l.length cap) l (HRD.out.ext hx4) Zen
     (fun w1 h1 x u' _ hu'=>Zjm w1 x u' wr.heap.size s hu' (h1.cellOf hk0 (fun h=>h)))
    have HIF:=Q0 hif;have HTK:Hid (outs.take (t+1)=outs.take t++[s]):=Q0 (by rw[List.take_add_one,hs];rfl)
    have hql:((outs.take t).map (Z82 l)).length≤1000:=by rw[List.length_map,List.length_take];omega
    have HQL:=Q0 hql;clear hcell hs hk0 hx4 hif hql;rcases Zp8 (fun x=>x.out==s) l with⟨k,hk,hkn,hany⟩|⟨hk,hany⟩
    ·have hmi:Z82 l s=k:=by unfold Z82;rw[hk];exact Int.toNat_natCast k
     rw[hk]at HIF;have HMI:=Q0 hmi;have HKN:=Q0 hkn;have HAN:=Q0 hany;have hk0:¬(k:Int)<0:=by omega
     clear hmi hk hkn hany hlt;have HMA2:Hid (∀x∈outs.take (t+1),Z35 l x=true):=Q0 (fun x hx=>by
      rw[HTK.out]at hx;rcases List.mem_append.1 hx with hx|hx
      ·exact HMA.out x hx
      ·rw[List.mem_singleton.1 hx];exact HAN.out)
     have HLT2:Hid (∀k∈(outs.take (t+1)).map (Z82 l),k<l.length):=Q0 (fun x hx=>by
      rw[HTK.out,List.map_append]at hx;rcases List.mem_append.1 hx with hx|hx
      ·exact HLT.out x hx
      ·rw[List.map_cons,List.map_nil,List.mem_singleton,HMI.out]at hx;rw[hx];exact HKN.out)
     have HT2:Hid ((outs.take (t+1)).map (Z82 l)=(outs.take t).map (Z82 l)++[k]):=Q0 (by rw[HTK.out,List.map_append,List.map_cons,List.map_nil,HMI.out])
     generalize (outs.take t).map (Z82 l)=ks at HQ HQL HT2 ⊢;clear HLT HMA;go_wp2_with fail;refine(HIF.out).mono ?_;rintro e w4 ⟨rfl,ho⟩;have HX5:=Q0 ((HX.out.thenAlloc (.cells #[S s] 9 (0,0))).then ho);have HQ4:=Q0 ((HQ.out.ext (Only.alloc (fun _=>False) wr (.cells #[S s] 9 (0,0)))).ext ho)
     have HO5:=Q0 ((HO.out.ext (Only.alloc (fun _=>False) wr (.cells #[S s] 9 (0,0)))).ext ho)
     clear ho;go_wp2_with (at_builtin;refine Zl7 rfl (.tmp 41) (.tmp 43) w2 (mb+1) _ ks k w4 rfl rfl rfl rfl HQ4.out (Nat.le_trans HQL.out (by decide)) (Nat.le_trans HB0.out.2 HO5.out.size) HX5.out (Nat.le_succ_of_le HB0.out.1) ?_;intro g5 cap5 w5 HR5 _ HG5;have HO6:=Q0 (HO5.out.then ((Only.of_grown HG5.out).mono (fun i _ e=>HQ4.out.base i e))))
     go_roundw
     case rel=>exact⟨t+1,_,rfl,by omega,by go_num,by rw[HT2.out];exact HR5,HMA2,HLT2,HO6⟩
     case measure=>simp[intOf];omega
    ·rw[hk]at HIF
     have HBD:=Q0 (Zpy HS.out hany HMA.out);have c0:=(HVV.out.errs.ext (HX2.out.then HX.out)).var 5 _ (by decide) rfl
     clear hk hany hlt;go_wp2_with fail;refine(HIF.out).mono ?_;rintro e w4 ⟨rfl,ho⟩;have HO4:=Q0 ((HX2.out.then HX.out).thenAlloc (.cells #[S s] 9 (0,0)));have HHO:=Q0 ho;clear ho;have c1:=HHO.out.cellOf ((Only.alloc (fun _=>False) wr (.cells #[S s] 9 (0,0))).cellOf c0 (fun h=>h)) (fun h=>h)
     go_wp2_with fail;go_region
     all_goals
      go_wp2_with fail;go_ret2
      exact HFB.out _ _ t HBD.out ⟨_,_,rfl,rfl,⟨_,rfl,(MapKept.heap_alloc _ _).1⟩,((HO4.out.then HHO.out).thenAlloc _).thenDrew⟩
   ·have hltz:¬(t:Int)<(outs.length:Int):=by omega
    obtain rfl:t=outs.length:=by omega
    rw[List.take_length]at HQ HMA HLT;have HBN:=Q0 (Zex HMA.out);have HBF:=Q0 (Bfs.start (nd:=Z07 l) HLT.out);have HBA:Hid (Zbw w2 wr mb (mb+1) [] q (outs.map (Z82 l)) []):=Q0 ⟨HX.out,HM0.out.later HO.out (fun e=>by omega),QI.of_row HQ.out,⟨HB0.out.1,Nat.lt_succ_self _,Nat.le_trans HB0.out.2 HO.out.size⟩,fun k=>by rw[if_neg (by simp)];rfl⟩
    obtain⟨ks,hks⟩:∃ks,ks=outs.map (Z82 l):=⟨_,rfl⟩;have hkl:ks.length≤1000:=by rw[hks,List.length_map];omega
    have HKS:Hid (Z5p l outs=ks):=Q0 hks.symm
    rw[←hks]at HBF HBA;clear hks HQ HMA HLT HX HO HM0 HB0 hlt ht;obtain⟨n,hn⟩:∃n,n=l.length:=⟨_,rfl⟩;obtain⟨nd,hnd⟩:∃nd,nd=Z07 l:=⟨_,rfl⟩;rw[←hn,←hnd]at HC HBF HFO;rw[←hn,←hnd]at HND;rw[←hn]at h40 hlz ⊢;clear hn hnd;obtain⟨aq,cq,rfl,hcq,hcm⟩:=HBA.out.q.form;clear hcq hcm;go_wp2_with fail;go_loopg [9,13] (Z3h n ks []) (fun g q _ wx=>∃(td ns:List Nat) (L:List (Int×Bool)),Z3h n td ns=g∧Hid (Bfs n nd ks td ns)∧Hid (Zbw w2 wx mb (mb+1) L q td ns))
    case atStart=>exact⟨ks,[],[],rfl,HBF,HBA⟩
    case round=>
     clear HBF HBA;obtain⟨td,ns,L,hg,HBF,HBA⟩:=hrel;cases td with
     | cons k td=>
      have hkn:=HBF.out.tlt k (.head _);have hkz:(k:Int)<(n:Int):=by omega
      have hk0:(0:Int)≤(k:Int):=by omega
      obtain⟨b,off,cap0,rfl,hcap,hmx,c0,hq1,hq2⟩:=HBA.out.q.head;have hlk:=KMap.look1 (P:=Tryz.prog) Z0z HBA.out.map Tryz.underlying232 Tryz.underlying3 (z:=.bool false) (by kernel_rfl) (k:Int)
      rw[HBA.out.look k]at hlk;have htz:(0:Int)<((td.length:Int)+1):=by omega
      have htl:=HBF.out.len;have hnl:=HBF.out.many;obtain⟨g9,hg9⟩:∃g9,g9=gk:=⟨_,rfl⟩;by_cases hc1:cap0=1
      ·subst hc1
       obtain rfl:td=[]:=List.length_eq_zero_iff.1 (by omega)
       have HQ:=Q0 (hq2 rfl);clear hq1 hq2;have hed:=HC.out k hkn;obtain⟨b2,off2,u,rfl,hu,hcell⟩:=hed;by_cases hk:k∈ns
       ·rw[if_pos hk]at hlk
        simp only at hlk
        have HN:=Q0 (HBF.out.old hk);have HB:=Q0 (HBA.out.cut (HQ.out (some ⟨b,off,none⟩)));clear hk hcell hu HBF;go_wp2_with fail;go_roundg (Z3h n [] ns)
        case measure=>rw[←hg];unfold Z3h;simp
        case rel=>exact⟨_,ns,L,rfl,HN,HB⟩
       ·rw[if_neg hk]at hlk
        simp only at hlk
        have HN:=Q0 (HBF.out.new HND.out hk);have hel:=Zep n nd k;have hmy:=HN.out.many;obtain⟨w5,hrun,hm5,ho5,hs5⟩:=KMap.store (P:=Tryz.prog) Z0z HBA.out.map Tryz.underlying232 Tryz.underlying3 (k:Int) true;have HB:=Q0 (HBA.out.marked hm5 ho5 (HBA.out.look.more k) (HQ.out (some ⟨b,off,none⟩)));have d0:=HB.out.ext.cellOf hcell (fun h=>h)
        have HU:=Q0 (hu.ext HB.out.ext);have HM:Hid (Z3h n ([]++Z24 n nd k) (k :: ns)<g9):=Q0 (by rw[hg9,←hg];exact Zpw hel (by simpa using hmy))
        have HTL:Hid (([]:List Nat).length+(Z24 n nd k).length≤1000000):=Q0 (by
         have h5:ns.length*n≤40*40:=Nat.mul_le_mul (by omega) h40
         simp at htl ⊢
         omega)
        clear hk hcell hu hm5 ho5 hs5 hel hmy HBF hg;generalize Z24 n nd k=ed at *;go_wp2_with (at_builtin;refine Zng rfl (.tmp 60) (.tmp 64) (mb+1) _ _ [] ed w5 rfl rfl rfl rfl HB.out.q HU.out HTL.out HB.out.lo.2.2 ?_;intro v6 w6 HQ6 HO6;have HB6:=Q0 (HB.out.put HQ6.out HO6.out));go_roundg (Z3h n ([]++ed) (k :: ns))
        case measure=>rw[←hg9];exact HM.out
        case rel=>exact⟨_,_,_,rfl,HN,HB6⟩
      ·have HQ:=Q0 (hq1 hc1)
       clear hq1 hq2;have hed:=HC.out k hkn;obtain⟨b2,off2,u,rfl,hu,hcell⟩:=hed;by_cases hk:k∈ns
       ·rw[if_pos hk]at hlk
        simp only at hlk
        have HN:=Q0 (HBF.out.old hk);have HB:=Q0 (HBA.out.cut HQ.out);clear hk hcell hu HBF;go_wp2_with fail;go_roundg (Z3h n td ns)
        case measure=>rw[←hg];unfold Z3h;simp
        case rel=>exact⟨_,ns,L,rfl,HN,HB⟩
       ·rw[if_neg hk]at hlk
        simp only at hlk
        have HN:=Q0 (HBF.out.new HND.out hk);have hel:=Zep n nd k;have hmy:=HN.out.many;obtain⟨w5,hrun,hm5,ho5,hs5⟩:=KMap.store (P:=Tryz.prog) Z0z HBA.out.map Tryz.underlying232 Tryz.underlying3 (k:Int) true;have HB:=Q0 (HBA.out.marked hm5 ho5 (HBA.out.look.more k) HQ.out);have d0:=HB.out.ext.cellOf hcell (fun h=>h)
        have HU:=Q0 (hu.ext HB.out.ext);have HM:Hid (Z3h n (td++Z24 n nd k) (k :: ns)<g9):=Q0 (by rw[hg9,←hg];exact Zpw hel (by simpa using hmy))
        have HTL:Hid ((td:List Nat).length+(Z24 n nd k).length≤1000000):=Q0 (by
         have h5:ns.length*n≤40*40:=Nat.mul_le_mul (by omega) h40
         simp at htl ⊢
         omega)
        clear hk hcell hu hm5 ho5 hs5 hel hmy HBF hg;generalize Z24 n nd k=ed at *;go_wp2_with (at_builtin;refine Zng rfl (.tmp 60) (.tmp 64) (mb+1) _ _ td ed w5 rfl rfl rfl rfl HB.out.q HU.out HTL.out HB.out.lo.2.2 ?_;intro v6 w6 HQ6 HO6;have HB6:=Q0 (HB.out.put HQ6.out HO6.out));go_roundg (Z3h n (td++ed) (k :: ns))
        case measure=>rw[←hg9];exact HM.out
        case rel=>exact⟨_,_,_,rfl,HN,HB6⟩
     | nil=>
      have HDN:=Q0 HBF.out.done;have HEX:=Q0 HBA.out.ext;have HMM:=Q0 HBA.out.map;have HLK:=Q0 HBA.out.look;obtain⟨aq,cq,hqf,hcq,hcm⟩:=HBA.out.q.form;rw[List.length_nil]at hqf;subst hqf;clear HBF HBA hcq hcm hg;go_wp2_with fail;obtain⟨bo,hbo⟩:∃bo,bo=wr.heap.size:=⟨_,rfl⟩;have HBO:Hid (w2.heap.size≤bo∧mb<bo∧bo≤wr.heap.size):=Q0 ⟨by have:=HEX.out.size;omega,by have:=HMM.out.lt;omega,by omega⟩
      clear hbo;have HE0:=Q0 (Only.refl (fun b=>bo≤b) wr)
      go_loopw [14,15,68] (fun q _ i wx=>∃(j:Nat)(qv:Value),qv=q∧j≤n∧i=.int .i64 j∧Hid (RowI bo wx qv ((List.range j).filter fun i=>decide (i∈ns)))∧Hid (Only (fun b=>bo≤b) wr wx)) (fun _ _ i _=>n-(intOf i).toNat)
      case atStart=>exact⟨0,_,rfl,Nat.zero_le _,rfl,Q0 (RowI.nil _ _),HE0⟩
      case round=>
       clear HE0;obtain⟨j,qv,rfl,hj,rfl,HR,HO⟩:=hrel;have HX5:=Q0 (HEX.out.trans HO.out (fun _ _ h=>h) (fun i hi e=>by have:=HBO.out;omega))
       by_cases hlt:j<n
       ·have hltz:(j:Int)<(n:Int):=by omega
        have hlk:=KMap.look1 (P:=Tryz.prog) Z0z (HMM.out.later HO.out (fun e=>by have:=HBO.out;omega)) Tryz.underlying232 Tryz.underlying3 (z:=.bool false) (by kernel_rfl) (j:Int)
        rw[HLK.out j]at hlk;have hfs:=Zgw (fun i=>decide (i∈ns)) j
        have hfl:((List.range j).filter fun i=>decide (i∈ns)).length≤j:=by
         have:=List.length_filter_le (fun i=>decide (i∈ns)) (List.range j)
         rw[List.length_range]at this;exact this
        have HFL:=Q0 hfl;by_cases hk:j∈ns
        ·rw[if_pos hk]at hlk
         simp only at hlk
         rw[decide_eq_true hk,if_pos rfl]at hfs;have HFS:=Q0 hfs;clear hk hfs hfl;generalize (List.range j).filter (fun i=>decide (i∈ns))=nx at *
         go_wp2_with (at_builtin;refine Zl7 rfl (.tmp 74) (.tmp 76) w2 bo _ nx j wr rfl rfl rfl rfl HR.out (Nat.le_trans HFL.out (by omega)) (Nat.le_trans HBO.out.2.2 HO.out.size) HX5.out HBO.out.1 ?_;intro g5 cap5 w5 HR5 _ HG5;have HO6:=Q0 (HO.out.then ((Only.of_grown HG5.out).mono (fun i _ e=>HR.out.base i e))))
         go_roundw
         case rel=>exact⟨j+1,_,rfl,by omega,by go_num,by rw[HFS.out];exact HR5,HO6⟩
         case measure=>simp[intOf];omega
        ·rw[if_neg hk]at hlk
         simp only at hlk
         rw[decide_eq_false hk,if_neg (by decide),List.append_nil]at hfs
         rw[←hfs]at HR;clear hk hfs hfl;go_wp2_with fail;go_roundw
         case rel=>exact⟨j+1,_,rfl,by omega,by go_num,HR,HO⟩
         case measure=>simp[intOf];omega
       ·have hltz:¬(j:Int)<(n:Int):=by omega
        obtain rfl:j=n:=by omega
        have HBS:Hid (w.heap.size≤bo):=Q0 (Nat.le_trans HX2.out.size HBO.out.1);go_wp2_with fail;go_ret2;exact HFO.out _ _ HBN.out ⟨_,_,rfl,HR.out.down HBS.out,HX2.out.then HX5.out,by rw[HKS.out];exact⟨fun i=>decide (i∈ns),rfl,fun i _=>HDN.out i⟩⟩
 ·have HN0:=Q0 h0
  have hf:Z0e l outs=Z04 l:=if_pos h0
  have HF:=Q0 hf;clear h0 hf;go_enter Tryz.func93,Tryz.ntmps93;go_wp2_with fail;refine HSH.out.mono ?_;rintro e w1 ⟨ev,rfl,he,ho⟩;obtain⟨t,p,rfl⟩:=he.some HN0.out;have HX1:=Q0 ho;have HEE:=Q0 he;clear he ho;go_wp2_with fail;go_ret2;exact⟨_,_,[],rfl,RowI.nil _ _,by rw[HF.out];exact HEE.out,HX1.out,.inl ⟨by rw[HF.out];exact HN0.out,rfl⟩⟩
theorem Zo2{b b':Nat}{w:World}{v:Value}{l:List B}(h:Row b' w v l)(hb:b≤b'):Row b w v l:=
 ⟨h.1,h.2.imp id fun⟨g,cap,cur,e,hg,r⟩=>⟨g,cap,cur,e,Nat.le_trans hb hg,r⟩⟩
end Go.Proofs.YtnmhaipjfpongacGreatDoor
