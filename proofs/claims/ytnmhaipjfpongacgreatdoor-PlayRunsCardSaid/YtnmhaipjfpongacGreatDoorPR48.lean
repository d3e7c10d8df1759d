/- A part of this claim's proof;each theorem bears its own conditions. -/
import Derived.Test.YtnmhaipjfpongacGreatDoorPR47
set_option maxRecDepth 100000
set_option maxHeartbeats 16000000
namespace Go.Proofs.YtnmhaipjfpongacGreatDoor
open Go.ChangeShapes Go.WideShapes Go.ChangeAt Go.RowKit
def Z6z(l:List Rule):B:=l.flatMap fun r=>Z9v r++[10]
theorem Zh7:∀{l:List Rule},(∀r∈l,(10:UInt8)∉Z9v r)→cutc 10 (Z6z l)=l.map Z9v++[[]]
 | [],_=>rfl
 | r :: l,h=>by
  have ih:=Zh7 (l:=l) fun q hq=>h q (.tail _ hq)
  have e:Z6z (r :: l)=Z9v r++10 :: Z6z l:=by unfold Z6z;rw[List.flatMap_cons,List.append_assoc];rfl
  rw[e,Z6q 10 _ _ (h r (.head _)),ih];rfl
theorem Zai(tmps:Array Value)(W:World)(h:Nat)(v a b:Value)(h2:tmps[2]?=some v)(h3:tmps[3]?=some (.pointer (some ⟨h,0,none⟩)))(d0:W.cell? ⟨h,0,none⟩=some a)(d1:W.cell? ⟨h,1,none⟩=some b) :
  (results Tryz.f155 tmps).run Tryz.prog W=.ok (.tuple #[v,.agg #[a,b]]) W:=by
 simp only[results,Tryz.results155];simp[go_sem,h2,h3,d0,d1]
theorem two_set{W:World}{h:Nat}{a b a' b':Value}{t:TypeId}(hc:W.heap[h]?=some (.cells #[a,b] t (0,0))) :
  ((W.setCell ⟨h,0,none⟩ a').setCell ⟨h,1,none⟩ b').heap[h]?=some (.cells #[a',b'] t (0,0))∧Only (fun i=>i=h) W ((W.setCell ⟨h,0,none⟩ a').setCell ⟨h,1,none⟩ b'):=
 ⟨Z01 (Z01 hc 0 a') 1 b',(Only.set (p:=fun i=>i=h) a' rfl).then (Only.set (p:=fun i=>i=h) b' rfl)⟩
theorem RdR.off{b:Nat}{cs:Array Value}{t:TypeId}{w w':World}{v:Value}{l:List Rule}(h:RdR w v l)(hc:w.heap[b]?=some (.cells cs t (0,0)))(hs:∀(j:Nat) x,cs[j]?≠some (S x))(ho:Only (fun i=>i=b) w w'):RdR w' v l:=by
 obtain⟨a,cap,h1,h2,h3,h4⟩:=h;refine⟨a,cap,h1,h2,h3,fun hne=>?_⟩
 obtain⟨b',off,h5,h6⟩:=h4 hne;refine⟨b',off,h5,fun i r hi=>?_⟩
 obtain⟨u,hu,c0,c1,c2,c3⟩:=h6 i r hi;have hb:b'≠b:=fun e=>by
  subst e;have:=Z00 hc (off+i*4);rw[c0]at this;exact hs _ _ this.symm
 exact⟨u,hu.off hc hs ho,ho.cellOf c0 hb,ho.cellOf c1 hb,ho.cellOf c2 hb,ho.cellOf c3 hb⟩
theorem ints_noS(a b:Int):∀(j:Nat) x,(#[.int .i64 a,.int .i64 b]:Array Value)[j]?≠some (S x):=fun j x h=>by
 rcases(show j=0∨j=1∨2≤j by omega)with rfl|rfl|h2
 ·cases h
 ·cases h
 ·rw[Array.getElem?_eq_none (by simpa using h2)]at h;cases h
def RetShO(l:List Rule)(w:World)(e:Ending)(w':World):Prop:=∃v,e=.returned (.tuple #[v,.agg #[IN 0,I (-1)]])∧RdR w' v l∧Ext w w'∧Z2d (fun i=>w.heap.size≤i) w' v l
theorem Zok{w wr:World}{v:Value}{ps:List (Rule×Option Addr×Nat×Nat)}{l:List Rule}(h:OwnR w wr v ps)(hl:ps.map Prod.fst=l)(hr:∀p∈ps,Row w.heap.size wr (SV p.2) p.1.ins):Z2d (fun i=>w.heap.size≤i) wr v l:=
 ⟨ps,hl,by have:=World.ownsRow.mono h.row (Nat.zero_le _);rwa [show ps.length=l.length by rw[←hl,List.length_map]]at this,fun i e=>(h.row.lt i e).1,fun p hp=>⟨World.ownsRow.mono (hr p hp) (Nat.zero_le _),fun i e=>((hr p hp).lt i e).1⟩⟩
theorem Zol{w wr w1 w2:World}{v:Value}{u:Option Addr×Nat×Nat}{ps:List (Rule×Option Addr×Nat×Nat)}{r:Rule}(h:OwnR w wr v ps)(hr:∀p∈ps,Row w.heap.size wr (SV p.2) p.1.ins)(hx:Ext wr w1)(hu:Row wr.heap.size w1 (SV u) r.ins)(hg:w1.grownBy w2 v.ownBlock):∀p∈ps++[(r,u)],Row w.heap.size w2 (SV p.2) p.1.ins:=by
 have ho:Only (fun b=>v.ownBlock=some b) w1 w2:=Only.of_grown hg
 intro p hp
 rcases List.mem_append.1 hp with hp|hp
 ·exact ho.row (hx.row (hr p hp) (fun _ _ h=>h)) (fun i e e2=>((h.texts p hp).2 i e).2 e2)
 ·rw[List.mem_singleton]at hp
  subst hp;exact ho.row (World.ownsRow.mono hu h.ext.size) (fun i e e2=>by have:=(hu.lt i e).1;have:=(h.row.lt i e2).2;omega)
theorem Zhv(w:World)(l:List Rule)(hl:∀r∈l,Zqk r∧(10:UInt8)∉Z9v r)(hr:Z34 l)(ht:(Z6z l).length≤10000):Calls Tryz.prog 155 #[S (Z6z l)] w (RetShO l w):=by
 have HL:=Q0 hl;have HR:=Q0 hr;have h40:=hr.1;have htz:((Z6z l).length:Int)≤10000:=by omega
 have hcs:=Zh7 fun r hr=>(hl r hr).2
 have hcut:=fun W=>Z3c W 10 10 rfl (Z6z l) (by omega)
 rw[hcs]at hcut;obtain⟨L,hL⟩:∃L,L=l.map Z9v++[[]]:=⟨_,rfl⟩;rw[←hL]at hcut;have HLL:=Q0 hL;have hLl:L.length=l.length+1:=by rw[hL,List.length_append,List.length_map];rfl
 rw[hLl]at hcut;have HCUT:=Q0 hcut;have HSM:Hid (∀r∈l,Z3z 900000 r):=Q0 (fun r h=>(Z29 hr r h).sm)
 generalize Z6z l=sh at htz HCUT;clear hl hr hcs hcut hL ht;go_enter Tryz.func155,Tryz.ntmps155;go_wp2_with fail;refine(HCUT.out _).mono ?_;rintro e w1 ⟨g1,cap1,rfl,hrow,ho1⟩;have hA0:=Only.alloc (fun _=>False) w (.cells #[.int .i64 0,.int .i64 0] 37 (0,0))
 have HG1:=Q0 (ho1.heapOf (MapKept.heap_alloc w (.cells #[.int .i64 0,.int .i64 0] 37 (0,0))).1 (fun h=>h))
 have HX1:=Q0 (hA0.then ho1);have HR1:Hid (Rd S w1 (.slice (some ⟨g1,0,none⟩) (l.length+1) cap1) L):=Q0 (Rd.of_row hrow);clear hA0 hrow ho1;obtain⟨gb,hgb⟩:∃gb,gb=w.heap.size:=⟨_,rfl⟩;rw[←hgb]at HG1 ⊢;have HGB:=Q0 hgb;have HB1:Hid (gb<w1.heap.size):=Q0 (Z03 HG1.out);clear hgb;go_wp2_with fail;go_loopw [5,6,7,8] (fun q i _ _ wr=>∃(j:Nat)(qv:Value) (ps:List (Rule×Option Addr×Nat×Nat)),qv=q∧j≤l.length∧i=.int .i64 j∧Hid (ps.map Prod.fst=l.take j)∧Hid (OwnR w1 wr qv ps)∧Hid (∀p∈ps,Row w1.heap.size wr (SV p.2) p.1.ins)) (fun _ i _ _ _=>l.length-(intOf i).toNat)
 case atStart=>exact⟨0,_,[],rfl,Nat.zero_le _,rfl,Q0 rfl,Q0 ⟨Only.refl _ _,World.ownsRow_nil _ _ _ _,fun p hp=>by cases hp⟩,Q0 (fun p hp=>by cases hp)⟩
 case round=>
  obtain⟨j,qv,ps,rfl,hj,rfl,HPS,HO,HRW⟩:=hrel;have hjz:(j:Int)<(l.length:Int)+1:=by omega
  have hj0:(0:Int)≤(j:Int):=by omega
  obtain⟨_,_,ee,_,_,hc0⟩:=HR1.out.ext HO.out.ext;have hc0:=hc0 (by intro h;rw[h]at hLl;simp at hLl)
  rw[hLl]at ee;cases ee;obtain⟨b,off,ee,hc⟩:=hc0;cases ee;by_cases hlt:j<l.length
  case pos=>
   obtain⟨r,hr⟩:∃r,l[j]?=some r:=⟨_,Q1 hlt⟩;have hLj:L[j]?=some (Z9v r):=by rw[HLL.out,List.getElem?_append_left (by rw[List.length_map];exact hlt),List.getElem?_map,hr];rfl
   have d0:=hc j _ hLj;rw[Nat.zero_add]at d0;have hne:((j:Int)==(l.length:Int))=false:=Q3 (by omega)
   have hne2:¬(j:Int)=(l.length:Int):=by omega
   have HRO:=Q0 (Zlk wr r (HL.out r (Q4 hr)).1);have HPL:Hid (ps.length≤1000000):=Q0 (by
    have:=congrArg List.length HPS.out
    rw[List.length_map,List.length_take]at this;omega)
   have HPS2:Hid (∀u,(ps++[(r,u)]).map Prod.fst=l.take (j+1)):=Q0 (fun u=>by rw[List.map_append,HPS.out,List.take_add_one,hr];rfl)
   have HJ:=Q0 hlt;generalize Z9v r=ln at d0 HRO;clear hr hLj hc hlt hj;go_wp2_with fail;refine HRO.out.mono ?_;rintro e w3 ⟨v3,rfl,hr3,ho3⟩;obtain⟨au,cu,rfl⟩:=form4 hr3;have hAL:=Only.alloc (fun _=>False) w3 (.cells #[S r.out,S r.kind,S r.word,.slice au r.ins.length cu] 55 (0,0))
   have HX3:=Q0 (ho3.then hAL);have HR3:Hid (Row wr.heap.size (w3.alloc (.cells #[S r.out,S r.kind,S r.word,.slice au r.ins.length cu] 55 (0,0))) (.slice au r.ins.length cu) r.ins):=Q0 (hAL.row hr3 (fun _ _ h=>h))
   have hm:=(MapKept.heap_alloc w3 (.cells #[S r.out,S r.kind,S r.word,.slice au r.ins.length cu] 55 (0,0))).1;have k0:=(Z00 hm 0).trans (rfl:_=some (S r.out));have k1:=(Z00 hm 1).trans (rfl:_=some (S r.kind));have k2:=(Z00 hm 2).trans (rfl:_=some (S r.word));have k3:=(Z00 hm 3).trans (rfl:_=some (Value.slice au r.ins.length cu));have HO3:=Q0 (HO.out.grow HX3.out);have HBZ:Hid (w1.heap.size≤(w3.alloc (.cells #[S r.out,S r.kind,S r.word,.slice au r.ins.length cu] 55 (0,0))).heap.size):=Q0 HO3.out.ext.size;have HSZ:Hid ((w3.alloc (.cells #[S r.out,S r.kind,S r.word,.slice au r.ins.length cu] 55 (0,0))).heap.size=w3.heap.size+1):=Q0 (by simp)
   clear hAL hr3 ho3 hm d0;go_wp2_with (at_builtin;refine Z14 encR 23 55 4 72 _ Zkj Tryz.underlying23 rfl (by decide) Z4r Zkr (by decide) (.tmp 46) (.tmp 48) w1.heap.size _ ps (r,au,r.ins.length,cu) (w3.alloc (.cells #[S r.out,S r.kind,S r.word,.slice au r.ins.length cu] 55 (0,0))) #[S r.out,S r.kind,S r.word,.slice au r.ins.length cu] rfl rfl rfl rfl (by show Value.slice (some ⟨w3.heap.size+1,0,none⟩) 1 1=_;rw[HSZ.out]) HO3.out.row HPL.out HBZ.out ?_;intro g5 cap5 w7 ho5 hg5 hn5;have HP5:=Q0 (HO.out.push HX3.out HR3.out ho5 hg5 hn5);have HRW5:=Q0 (Zol (u:=(au,r.ins.length,cu)) HO.out HRW.out HX3.out HR3.out hg5);clear ho5 hg5 hn5)
   go_roundw
   case rel=>exact⟨j+1,_,_,rfl,HJ.out,by go_num,Q0 (HPS2.out _),HP5,HRW5⟩
   case measure=>have:=HJ.out;simp[intOf];omega
  case neg=>
   obtain rfl:j=l.length:=by omega
   have hLj:L[l.length]?=some []:=by rw[HLL.out];simp
   have d0:=hc _ _ hLj;rw[Nat.zero_add]at d0;have hrd:=HO.out.rd (l:=l) (by rw[HPS.out,List.take_length])
   have hri:=Zok HO.out (l:=l) (by rw[HPS.out,List.take_length]) HRW.out
   have HB1L:Hid (w.heap.size<w1.heap.size):=Q0 (by have:=HB1.out;have:=HGB.out;omega)
   have hgw:=HO.out.ext.heapOf HG1.out (fun h=>h)
   have HSF:=Q0 (Z9d wr l qv hrd HSM.out);rw[Z8r (Z2e.2 HR.out)]at HSF;have HSF:Hid (Calls Tryz.prog 25 #[qv] wr (RetE (.agg #[.int .i64 0,.int .i64 (-1)]) wr)):=HSF;obtain⟨aq,cq,hqf,_⟩:=id hrd;subst hqf;have HRD:=Q0 hrd;have HRI:=Q0 hri;have HGW:=Q0 hgw;clear hrd hri hgw hc hlt hj hLj;go_wp2_with fail;refine HSF.out.mono ?_;rintro e w5 ⟨rfl,ho5⟩;have hA5:=Only.alloc (fun _=>False) w5 (.cells #[Value.int .i64 0,Value.int .i64 (-1)] 37 (0,0))
   have hx5:=ho5.then hA5;have hm:=(MapKept.heap_alloc w5 (.cells #[Value.int .i64 0,Value.int .i64 (-1)] 37 (0,0))).1;have k0:=(Z00 hm 0).trans (rfl:_=some (Value.int .i64 0));have k1:=(Z00 hm 1).trans (rfl:_=some (Value.int .i64 (-1)));have hg5:=hx5.heapOf HGW.out (fun h=>h)
   have s0:=(Z00 hg5 0).trans (rfl:_=some (Value.int .i64 0));have s1:=(Z00 hg5 1).trans (rfl:_=some (Value.int .i64 0));have f0:=Z02 hg5 0;have f1:=Z02 hg5 1;obtain⟨hcf,hof⟩:=two_set (a':=Value.int .i64 0) (b':=Value.int .i64 (-1)) hg5;have HF0:=Q0 ((Z00 hcf 0).trans (rfl:_=some (Value.int .i64 0)));have HF1:=Q0 ((Z00 hcf 1).trans (rfl:_=some (Value.int .i64 (-1))));have HFR:=Q0 ((HRD.out.ext hx5).off hg5 (ints_noS 0 0) hof);have HFI:=Q0 ((((HRI.out.later hx5 (fun _ h=>h.elim)).later hof (fun i e k=>by have e:i=gb:=e;have:=HGB.out;have:=HB1.out;omega)).later (Only.drew (fun _=>False) _) (fun _ h=>h.elim)).mono (B':=fun i=>w.heap.size≤i) (fun i _ k=>by have:=HB1L.out;omega))
   have HFX:=Q0 (((HX1.out.then HO.out.ext).then hx5).trans hof (fun _ _ h=>h) (fun i hi e=>by have:=HGB.out;omega))
   clear hm hcf hof hg5 hx5 hA5;go_wp2_with fail;go_region_law (fail)
   all_goals
    go_wp2_with fail;exact bodyPost_ret (v:=.tuple #[.slice aq l.length cq,.agg #[.int .i64 0,.int .i64 (-1)]]) (Zai _ _ gb _ _ _ rfl rfl HF0.out HF1.out) rfl ⟨_,rfl,HFR.out.ext (Only.drew _ _),HFX.out.thenDrew,HFI.out⟩
theorem Zod:∀r∈Z0a,Zqk r∧(10:UInt8)∉Z9v r:=by
 intro r hr
 have key:∀r∈Z0a,(r.out.all (· != 32)&&r.kind.all (· != 32)&&(r.word.all fun c=>c != 34&&c != 92)&&r.ins != []&&(r.ins.all fun s=>s != []&&!s.contains 32)&&decide (r.out.length≤200)&&decide (r.kind.length≤200)&&decide (r.word.length≤200)&&decide ((joinc 32 r.ins).length≤5000)&&(((joinc 32 r.ins)[0]?).all (· != 34))&&!(Z9v r).contains 10)=true:=by decide +kernel
 have h:=key r hr;simp only[Bool.and_eq_true,List.all_eq_true,decide_eq_true_eq,bne_iff_ne,Bool.not_eq_true']at h;obtain⟨⟨⟨⟨⟨⟨⟨⟨⟨⟨h1,h2⟩,h3⟩,h4⟩,h5⟩,h6⟩,h7⟩,h8⟩,h9⟩,h10⟩,h11⟩:=h;refine⟨⟨h1,h2,h3,h4,fun s hs=>?_,h6,h7,h8,h9,fun c hc=>?_⟩,?_⟩
 ·have:=h5 s hs
  simpa using this
 ·rw[hc]at h10
  simpa using h10
 ·simpa using h11
theorem Zoc:(Z6z Z0a).length≤10000:=by decide +kernel
def Zqf(w:World)(e:Ending)(w':World):Prop:=∃v,e=.returned v∧RdR w' v Z0a∧Ext w w'∧Z2d (fun i=>w.heap.size≤i) w' v Z0a
theorem Z5z(w:World):Calls Tryz.prog 142 #[] w (Zqf w):=by
 have HSO:=Q0 (Zhv w Z0a Zod (Z0k Z23).1 Zoc);go_enter Tryz.func142,Tryz.ntmps142;go_wp2_with fail;refine HSO.out.mono ?_;rintro e w1 ⟨v,rfl,hr,ho,hri⟩;have HRI:=Q0 (hri.later (Only.alloc (fun _=>False) w1 (.cells #[.int .i64 0,.int .i64 (-1)] 37 (0,0))) (fun _ h=>h.elim))
 have HR:=Q0 (hr.ext (Only.alloc _ w1 (.cells #[.int .i64 0,.int .i64 (-1)] 37 (0,0))));have HX:=Q0 (ho.thenAlloc (.cells #[.int .i64 0,.int .i64 (-1)] 37 (0,0)));obtain⟨av,cv,rfl,_⟩:=hr;clear ho hri;go_wp2_with fail;go_ret;exact⟨_,rfl,HR.out,HX.out,HRI.out⟩
theorem Z72(w:World):Calls Tryz.prog 142 #[] w (Zl2 w):=
 (Z5z w).mono fun _ _ ⟨v,h1,h2,h3,_⟩=>⟨v,h1,h2,h3⟩
theorem Zdl(w:World)(l:List Rule)(v1 v2:Value)(h1:RdR w v1 l)(h2:RdR w v2 l)(hl:l.length≤1000):Calls Tryz.prog 140 #[v1,v2] w (RetE (.bool true) w):=by
 obtain⟨a1,p1,rfl,_,_,hc1⟩:=h1;obtain⟨a2,p2,rfl,_,_,hc2⟩:=h2;have HC1:=Q0 hc1;have HC2:=Q0 hc2;have hlz:(l.length:Int)≤1000:=by omega
 clear hc1 hc2;go_enter Tryz.func140,Tryz.ntmps140;go_wp2_with fail;go_loopw [5] (fun i wr=>∃j:Nat,j≤l.length∧i=.int .i64 j∧Hid (Ext w wr)) (fun i _=>l.length-(intOf i).toNat)
 case atStart=>exact⟨0,Nat.zero_le _,rfl,Q0 (Only.refl _ _)⟩
 case round=>
  obtain⟨j,hj,rfl,HX⟩:=hrel;by_cases hlt:j<l.length
  case pos=>
   have hltz:(j:Int)<(l.length:Int):=by omega
   have hj0:(0:Int)≤(j:Int):=by omega
   obtain⟨b1,off1,rfl,hcell1⟩:=HC1.out (by intro h;rw[h]at hlt;simp at hlt)
   obtain⟨b2,off2,rfl,hcell2⟩:=HC2.out (by intro h;rw[h]at hlt;simp at hlt)
   obtain⟨r,hr⟩:∃r,l[j]?=some r:=⟨_,Q1 hlt⟩;obtain⟨u1,hu1,c0,c1,c2,c3⟩:=hcell1 j r hr;obtain⟨u2,hu2,d0,d1,d2,d3⟩:=hcell2 j r hr;have c0:=HX.out.cellOf c0 (fun h=>h)
   have c1:=HX.out.cellOf c1 (fun h=>h)
   have c2:=HX.out.cellOf c2 (fun h=>h)
   have c3:=HX.out.cellOf c3 (fun h=>h)
   have d0:=HX.out.cellOf d0 (fun h=>h)
   have d1:=HX.out.cellOf d1 (fun h=>h)
   have d2:=HX.out.cellOf d2 (fun h=>h)
   have d3:=HX.out.cellOf d3 (fun h=>h)
   have hst:=fun k=>Zdk (wr.drewN k) u1 u2 r.ins r.ins ((hu1.ext HX.out).ext (Only.drewN _ _ k)) ((hu2.ext HX.out).ext (Only.drewN _ _ k))
   simp only[beq_self_eq_true]at hst;have HST:=Q0 hst;have HJ:=Q0 hlt;obtain⟨x1,y1,rfl,_⟩:=hu1;obtain⟨x2,y2,rfl,_⟩:=hu2;clear hcell1 hcell2 hr hst hj hlt;go_wp2_with fail;go_quiet ((go_at_call 74;exact Calls.quiet_of (HST.out _)));go_wp2_with fail;go_roundw
   case rel=>exact⟨j+1,HJ.out,by go_num,Q0 (HX.out.thenDrewN _)⟩
   case measure=>have:=HJ.out;simp[intOf];omega
  case neg=>
   have hltz:¬(j:Int)<(l.length:Int):=by omega
   go_wp2_with fail;go_ret
   exact⟨rfl,HX.out⟩
theorem Zo7{w:World}{b:Nat}{cs:Array Value}{zs:List Int}(h:w.heap[b]?=some (.cells cs 3 (0,0)))(hc:cs.toList=zs.map I)(hl:zs.length≤1000):Rd I w (.slice (some ⟨b,0,none⟩) zs.length zs.length) zs:=by
 refine⟨_,zs.length,rfl,Nat.le_refl _,by unfold maxLen;omega,fun _=>⟨b,0,rfl,fun i x hx=>?_⟩⟩
 rw[Nat.zero_add,Z00 h i,←Array.getElem?_toList,hc,List.getElem?_map,hx];rfl
theorem Zfw:(Z2q ⟨[],[],[]⟩ [0,-1,5]).2=[0,-1,0]:=by
 have h0:(numP ⟨[],[],[]⟩ 0).2=0:=by
  show (((oneP ⟨[],[],[]⟩ 0).2:Nat):Int)=0
  have:(oneP ⟨[],[],[]⟩ 0).2=Z06 [] (Z1i 0) (Z1o 0):=rfl
  rw[this,show Z06 [] (Z1i 0) (Z1o 0)=0 by decide +kernel]
  rfl
 have h5:∀x,(numP x 5).2=0:=fun x=>by
  show (((oneP x 5).2:Nat):Int)=0
  have ha:Z4i 5=some []:=rfl
  have:(oneP x 5).2=(Z0r Z0a (Z4u Z0a [])).1:=rfl
  rw[this,Z2w ha];rfl
 show [(numP ⟨[],[],[]⟩ 0).2,(numP (numP ⟨[],[],[]⟩ 0).1 (-1)).2,(numP _ 5).2]=_
 rw[h0,h5];rfl
theorem Zlt(w:World)(P:Nat→Addr)(hV:PV w P [1,2,3,4,5,6,7,8,9,10,11])(hS:Sents w P):Calls Tryz.prog 76 #[] w (RetE (.bool true) w):=by
 have HV:=Q0 hV;have HS:=Q0 hS;clear hV hS;go_enter Tryz.func76,Tryz.ntmps76;go_wp2_with fail;refine(Zav w P HV.out).mono ?_;rintro e w1 ⟨rfl,D,hp⟩;have hx1:Ext w1 (w1.alloc (.cells #[.int .i64 0,.int .i64 (-1),.int .i64 5] 3 (0,0))):=Only.alloc _ _ _;have hrd:=Zo7 (zs:=[0,-1,5]) (MapKept.heap_alloc w1 (.cells #[.int .i64 0,.int .i64 (-1),.int .i64 5] 3 (0,0))).1 rfl (by decide)
 have hru:=Zau P (hp.grow hx1) (Holds.rdI hrd (fun i e k=>by
  have e:w1.heap.size=i:=Option.some.inj e
  have:=(hp.lt i k).2
  omega)) (by decide) (by decide) HV.out HS.out
 have HRU:=Q0 hru;clear hp hx1 hrd hru;go_wp2_with fail;refine HRU.out.mono ?_;rintro e w2 ⟨vo,D2,rfl,hrow,hp2,_,_⟩;rw[Zfw]at hrow;have HX2:=Q0 hp2.ext;have hx3:Ext w2 (w2.alloc (.cells #[.int .i64 0,.int .i64 (-1),.int .i64 0] 3 (0,0))):=Only.alloc _ _ _;have hrd3:=Zo7 (zs:=[0,-1,0]) (MapKept.heap_alloc w2 (.cells #[.int .i64 0,.int .i64 (-1),.int .i64 0] 3 (0,0))).1 rfl (by decide)
 have hsi:=Z9c _ vo _ [0,-1,0] [0,-1,0] ((RowZ.rd hrow).ext hx3) hrd3;have HSI:=Q0 hsi;have HX3:=Q0 (HX2.out.then hx3);obtain⟨av,cv,rfl,_⟩:=RowZ.rd hrow;clear hrow hp2 hx3 hrd3 hsi HRU;go_wp2_with fail;refine HSI.out.mono ?_;rintro e w4 ⟨rfl,hd4⟩;have HX4:=Q0 (HX3.out.then hd4.ext);clear hd4;go_wp2_with fail;refine(Z5d w4).mono ?_;rintro e w5 ⟨v5,rfl,hr5,ho5⟩;have HR5:=Q0 hr5;have HX5:=Q0 (HX4.out.then ho5);obtain⟨a5,c5,rfl,_⟩:=hr5;clear ho5;go_wp2_with fail;refine(Z72 w5).mono ?_;rintro e w6 ⟨v6,rfl,hr6,ho6⟩;have HSR:=Q0 (Zdl w6 Z0a _ v6 (HR5.out.ext ho6) hr6 (by decide))
 have HX6:=Q0 (HX5.out.then ho6);obtain⟨a6,c6,rfl,_⟩:=hr6;clear ho6;go_wp2_with fail;refine HSR.out.mono ?_;rintro e w7 ⟨rfl,ho7⟩;have HX7:=Q0 (HX6.out.then ho7);clear ho7;go_wp2_with fail;go_ret;exact⟨rfl,HX7.out⟩
end Go.Proofs.YtnmhaipjfpongacGreatDoor
