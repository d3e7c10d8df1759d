/- A part of this claim's proof;each theorem bears its own conditions. -/
import Derived.Test.YtnmhaipjfpongacGreatDoorPR29
import Derived.Test.YtnmhaipjfpongacGreatDoorPR30
set_option maxRecDepth 100000
set_option maxHeartbeats 2000000
namespace Go.Proofs.YtnmhaipjfpongacGreatDoor
open Go.ChangeShapes Go.WideShapes Go.ChangeAt Go.RowKit
def Zcf:Nat→B
 | 1=>[119,97,105,116,115]
 | 2=>[100,111,110,101]
 | 3=>[102,97,105,108,101,100]
 | 4=>[108,101,102,116]
 | _=>[]
def Zce(E:BE)(s:BS)(z:Int):B:=if 0≤z∧z.toNat∈E.sm then Zcf (s.st z.toNat)else []
theorem Zfh{E:BE}{s:BS}{i:Nat}(hi:i∈E.sm):Zce E s (i:Int)=Zcf (s.st i):=by
 unfold Zce;rw[if_pos ⟨by omega,by rw[Int.toNat_natCast];exact hi⟩,Int.toNat_natCast]
theorem Zcd{E:BE}{s:BS}{z:Int}(h:∀k∈E.sm,(k:Int)≠z):Zce E s z=[]:=by
 unfold Zce;exact if_neg fun⟨h1,h2⟩=>h _ h2 (by omega)
theorem Zne(E:BE)(z:Int):(∃i:Nat,z=(i:Int)∧i∈E.sm)∨∀k∈E.sm,(k:Int)≠z:=by
 by_cases h:∃i:Nat,z=(i:Int)∧i∈E.sm
 ·exact .inl h
 ·exact .inr fun k hk e=>h ⟨k,e.symm,hk⟩
def RetSt(v:Value)(w:World)(e:Ending)(w':World):Prop:=e=.returned v∧w=w'
section
variable {w:World}{P:Nat→Addr}{base:Nat}{E:BE}{K:BK}{s:BS}
theorem Znn(h:Z0c w P base E K s)(hI:BInv E s)(z:Int) :
  Calls Tryz.prog 69 #[PTR K.b,I z] w (RetE (S (Zce E s z)) w):=by
 have c1:=(h.cell 1).trans (rfl:_=some (Value.map (some K.lb)));have hlk:=KMap.look (P:=Tryz.prog) Z0z h.steps Tryz.underlying184 Tryz.underlying3 (z:=.pointer none) (by kernel_rfl) z
 rcases Zne E z with⟨i,rfl,hi⟩|hz
 ·rw[Z10 hi]at hlk
  simp only[Option.isSome_some]at hlk;rw[Zfh hi];have s4:=(h.stepCell hi 4).trans (rfl:_=some (IN (s.st i)));have s4':=fun ob=>(Only.alloc (fun _=>False) w ob).cellOf s4 (fun h=>h)
  have hr:=hI.rng i hi;clear h hI hi;rcases(show s.st i=1∨s.st i=2∨s.st i=3∨s.st i=4 by omega)with e|e|e|e
  all_goals
   rw[e]at s4 s4' ⊢;clear e hr;go_enter Tryz.func69,Tryz.ntmps69;go_wp2_with fail;go_ret;exact⟨rfl,Only.alloc _ _ _⟩
 ·rw[Z8q hz]at hlk
  simp only[Option.isSome_none]at hlk;rw[Zcd hz];clear h hI hz;go_enter Tryz.func69,Tryz.ntmps69;go_wp2_with fail;go_ret;exact⟨rfl,Only.refl _ _⟩
noncomputable def resZ(E:BE)(s:BS)(z:Int):B×Bool:=if 0≤z∧z.toNat∈E.sm∧s.st z.toNat=2 then((E.ans z.toNat).1,true)else([],false)
theorem Zo4{E:BE}{s:BS}{i:Nat}(hi:i∈E.sm)(h2:s.st i=2):resZ E s (i:Int)=((E.ans i).1,true):=by
 unfold resZ;rw[if_pos ⟨by omega,by rw[Int.toNat_natCast];exact hi,by rw[Int.toNat_natCast];exact h2⟩,Int.toNat_natCast]
theorem resZ_not{E:BE}{s:BS}{i:Nat}(h2:s.st i≠2):resZ E s (i:Int)=([],false):=by
 unfold resZ;exact if_neg fun⟨_,_,h3⟩=>h2 (by rwa [Int.toNat_natCast]at h3)
theorem resZ_out{E:BE}{s:BS}{z:Int}(h:∀k∈E.sm,(k:Int)≠z):resZ E s z=([],false):=by
 unfold resZ;exact if_neg fun⟨h1,h2,_⟩=>h _ h2 (by omega)
theorem Zll(h:Z0c w P base E K s)(z:Int) :
  Calls Tryz.prog 68 #[PTR K.b,I z] w (RetSt (.tuple #[S (resZ E s z).1,.bool (resZ E s z).2]) w):=by
 have c1:=(h.cell 1).trans (rfl:_=some (Value.map (some K.lb)));have hlk:=KMap.look (P:=Tryz.prog) Z0z h.steps Tryz.underlying184 Tryz.underlying3 (z:=.pointer none) (by kernel_rfl) z
 rcases Zne E z with⟨i,rfl,hi⟩|hz
 ·rw[Z10 hi]at hlk
  simp only[Option.isSome_some]at hlk;have s4:=(h.stepCell hi 4).trans (rfl:_=some (IN (s.st i)));have s6:=(h.stepCell hi 6).trans (rfl:_=some (outC E s i));by_cases h2:s.st i=2
  ·rw[Zo4 hi h2]
   unfold outC at s6;rw[if_pos h2]at s6;rw[h2]at s4;clear h hi h2;go_enter Tryz.func68,Tryz.ntmps68;go_wp2_with fail;go_ret2;exact⟨rfl,rfl⟩
  ·rw[resZ_not h2]
   have hne:(((s.st i:Nat):Int) != 2)=true:=by rw[bne_iff_ne];omega
   clear h hi h2 s6;go_enter Tryz.func68,Tryz.ntmps68;go_wp2_with fail;go_ret2;exact⟨rfl,rfl⟩
 ·rw[Z8q hz]at hlk
  simp only[Option.isSome_none]at hlk;rw[resZ_out hz];clear h hz;go_enter Tryz.func68,Tryz.ntmps68;go_wp2_with fail;go_ret2;exact⟨rfl,rfl⟩
end
end Go.Proofs.YtnmhaipjfpongacGreatDoor
namespace Go.Proofs.YtnmhaipjfpongacGreatDoor
def Z71(l:List Rule)(g:Nat→Nat)(t i:Nat):Bool:=(List.range t).all fun k=>!Z07 l i k || g k==2
theorem Zi5(l:List Rule)(g:Nat→Nat)(t i:Nat):Z71 l g (t+1) i=(Z71 l g t i&&(!Z07 l i t || g t==2)):=by
 unfold Z71;rw[List.range_succ,List.all_append];simp
section
variable {E:BE}{o:List Nat}{is:Nat→Bool}{s:BS}
theorem Zln(h:Z0w E o is){i:Nat}(hi:i∈E.sm)(h1:s.st i=1):Z71 E.l (mst E s) E.l.length i=Z0n E s i:=by
 rw[Bool.eq_iff_iff,Z13];unfold Z71;rw[List.all_eq_true];constructor
 ·refine fun h2=>⟨h1,fun k hk hn=>?_⟩
  have:=h2 k (List.mem_range.2 (h.lt k hk))
  rw[show Z07 E.l i k=true from hn,Z1z hk]at this
  simpa using this
 ·rintro⟨_,h2⟩ k hk
  have hkl:=List.mem_range.1 hk;cases hn:Z07 E.l i k with
  | false=>rfl
  | true=>
   have hks:=h.clos i hi k hkl hn;rw[Z1z hks,h2 k hks hn];rfl
def Z2a(E:BE)(s:BS)(i:Nat):Bool:=decide (i∈E.sm)&&Z0n E s i
theorem Zo3{l k:List Nat}(hl:l.Pairwise fun x y=>x<y)(hk:k.Pairwise fun x y=>x<y)(h:∀x,x∈l↔x∈k):l=k:=by
 have h1:=Zan (hl.imp fun h=>Nat.ne_of_lt h) h hk
 have h2:=Zan (hl.imp fun h=>Nat.ne_of_lt h) (fun x=>Iff.rfl) hl
 rw[←h1,h2]
theorem Zi8(n:Nat):(List.range n).Pairwise fun x y=>x<y:=List.pairwise_lt_range
theorem Zfs(h:Z0w E o is):(List.range E.l.length).filter (Z2a E s)=Z37 E s:=by
 refine Zo3 ((Zi8 _).filter _) (h.rise.filter _) fun x=>?_
 unfold Z37;rw[List.mem_filter,List.mem_filter,List.mem_range];unfold Z2a;rw[Bool.and_eq_true,decide_eq_true_eq];exact⟨fun h=>h.2,fun h2=>⟨h.lt x h2.1,h2⟩⟩
theorem Zgx{p:Nat→Bool}(t:Nat):(List.range (t+1)).filter p=(List.range t).filter p++(if p t=true then [t]else []):=by
 rw[List.range_succ,List.filter_append];congr 1;by_cases h:p t=true
 ·rw[if_pos h,List.filter_cons_of_pos h];rfl
 ·rw[if_neg h,List.filter_cons_of_neg h];rfl
end
def ones(n:Nat)(g:Nat→Nat):Nat:=(List.range n).countP fun x=>g x==1
theorem Zg2{n:Nat}{f g:Nat→Nat}(hd:∀x,g x=1→f x=1){k:Nat}(hk:k<n)(h1:g k≠1)(h2:f k=1):ones n g+1≤ones n f:=
 Zd7 (n:=n) (f:=fun x=>g x==1) (g:=fun x=>f x==1) (fun x _ h=>beq_iff_eq.2 (hd x (beq_iff_eq.1 h))) hk (Q3 h1) (beq_iff_eq.2 h2)
theorem ones_le{n:Nat}{f g:Nat→Nat}(hd:∀x,g x=1→f x=1):ones n g≤ones n f:=
 List.countP_mono_left fun x _ h=>beq_iff_eq.2 (hd x (beq_iff_eq.1 h))
def Closed1(n:Nat)(nd:Nat→Nat→Bool)(f:Nat→Nat):Prop:=∀a b,a<n→b<n→f a=1→nd a b=true→f b<3
structure FRnd(n:Nat)(nd:Nat→Nat→Bool)(f g:Nat→Nat)(k j:Nat):Prop where
 keep:∀x,f x≠1→g x=f x
 did:∀a b,a<n→b<n→(a<k∨(a=k∧b<j))→3≤f b→nd a b=true→g a≠1
 cnt:(∀x,g x=f x)∨(ones n g+1≤ones n f∧¬Closed1 n nd f)
section
variable {n:Nat}{nd:Nat→Nat→Bool}{f g f0:Nat→Nat}{k j r:Nat}
theorem FRnd.start(n:Nat)(nd:Nat→Nat→Bool)(f:Nat→Nat):FRnd n nd f f 0 0:=⟨fun _ _=>rfl,fun a b _ _ h=>by omega,.inl fun _=>rfl⟩
theorem FRnd.one(h:FRnd n nd f g k j)(x:Nat)(hx:g x=1):f x=1:=Classical.byContradiction fun hn=>hn (by rw[←h.keep x hn];exact hx)
theorem FRnd.skip(h:FRnd n nd f g k j)(hn:¬(g k=1∧3≤g j∧nd k j=true)):FRnd n nd f g k (j+1):=
 ⟨h.keep,fun a b ha hb hab h3 hnd h1=>by
  by_cases he:a=k∧b=j
  ·obtain⟨rfl,rfl⟩:=he
   exact hn ⟨h1,by rw[h.keep b (by omega)];exact h3,hnd⟩
  ·exact h.did a b ha hb (by omega) h3 hnd h1,h.cnt⟩
theorem FRnd.mark(h:FRnd n nd f g k j)(h1:g k=1)(h3:3≤g j)(hnd:nd k j=true)(hk:k<n)(hj:j<n){g':Nat→Nat}(hg:∀x,g' x=if x=k then 4 else g x):FRnd n nd f g' k (j+1):=by
 have hf1:=h.one k h1;have hd:∀x,g' x=1→g x=1:=fun x hx=>by
  rw[hg]at hx;by_cases e:x=k
  ·rw[if_pos e]at hx;omega
  ·rw[if_neg e]at hx;exact hx
 have hk4:g' k=4:=by rw[hg,if_pos rfl]
 refine⟨fun x hx=>?_,fun a b ha hb hab h3' hnd' he=>?_,?_⟩
 ·rw[hg,if_neg (fun e=>hx (by rw[e];exact hf1))];exact h.keep x hx
 ·by_cases e:a=k
  ·subst e;omega
  ·exact h.did a b ha hb (by omega) h3' hnd' (hd a he)
 ·right
  have hl:=Zg2 (n:=n) hd hk (by omega) h1
  rcases h.cnt with hs|⟨hc,hcl⟩
  ·refine⟨Nat.le_trans hl (ones_le fun x hx=>by rw[←hs x];exact hx),fun hc=>?_⟩
   have:=hc k j hk hj hf1 hnd
   rw[←hs j]at this;omega
  ·exact⟨by omega,hcl⟩
theorem FRnd.line(h:FRnd n nd f g k n):FRnd n nd f g (k+1) 0:=⟨h.keep,fun a b ha hb hab=>h.did a b ha hb (by omega),h.cnt⟩
structure FRds(n:Nat)(nd:Nat→Nat→Bool)(f0 f:Nat→Nat)(r:Nat):Prop where
 keep:∀x,f0 x≠1→f x=f0 x
 cnt:Closed1 n nd f∨ones n f+r≤ones n f0
theorem FRds.start(n:Nat)(nd:Nat→Nat→Bool)(f:Nat→Nat):FRds n nd f f 0:=⟨fun _ _=>rfl,.inr (Nat.le_refl _)⟩
theorem FRds.next(h:FRds n nd f0 f r)(hr:FRnd n nd f g n 0):FRds n nd f0 g (r+1):=by
 refine⟨fun x hx=>by rw[hr.keep x (by rw[h.keep x hx];exact hx),h.keep x hx],?_⟩
 rcases hr.cnt with hs|⟨hc,hcl⟩
 ·refine .inl fun a b ha hb h1 hn=>?_
  refine Classical.byContradiction fun h3=>?_
  exact hr.did a b ha hb (.inl ha) (by rw[←hs b];omega) hn h1
 ·rcases h.cnt with h|h
  ·exact absurd h hcl
  ·right;omega
theorem FRds.done(h:FRds n nd f0 f n){i:Nat}(hi:i<n)(h0:f0 i≠1):Closed1 n nd f:=by
 rcases h.cnt with h|h
 ·exact h
 ·exfalso
  have h2:=Zg2 (n:=n) (f:=fun _=>1) (g:=f0) (fun _ _=>rfl) hi h0 rfl
  have h3:ones n (fun _=>1)≤n:=by
   unfold ones;exact Nat.le_trans List.countP_le_length (Nat.le_of_eq List.length_range)
  omega
end
def FOk(E:BE)(s:BS)(g:Nat→Nat):Prop:=∀x,g x=mst E s x∨(mst E s x=1∧g x=4∧Z2y E s x)
theorem FOk.start(E:BE)(s:BS):FOk E s (mst E s):=fun _=>.inl rfl
theorem FOk.mark{E:BE}{s:BS}{g g':Nat→Nat}(h:FOk E s g){k j:Nat}(h1:g k=1)(h3:3≤g j)(hnd:Z07 E.l k j=true)(hg:∀x,g' x=if x=k then 4 else g x):FOk E s g':=fun x=>by
 by_cases e:x=k
 ·subst e
  right
  have hx1:mst E s x=1:=by
   rcases h x with h2|⟨_,h2,_⟩
   ·rw[←h2];exact h1
   ·omega
  have hin:∀y,mst E s y≠0→y∈E.sm:=fun y hy=>Classical.byContradiction fun hn=>hy (Z3u hn)
  have hxs:=hin x (by omega)
  have hs1:s.st x=1:=by rw[←Z1z (s:=s) hxs];exact hx1
  refine⟨hx1,by rw[hg,if_pos rfl],?_⟩
  rcases h j with h2|⟨h2,_,h4⟩
  ·have hjs:=hin j (by omega)
   exact .one hxs hs1 hjs hnd (by rw[←Z1z (s:=s) hjs];omega)
  ·exact .more hxs hs1 (hin j (by omega)) hnd h4
 ·rw[hg,if_neg e];exact h x
theorem fok_end{E:BE}{s:BS}{g:Nat→Nat}(hlt:∀i∈E.sm,i<E.l.length)(h:FOk E s g)(hc:Closed1 E.l.length (Z07 E.l) g):∀x,g x=mst E (Z39 E s) x:=by
 have key:∀x,Z2y E s x→g x≠1:=fun x hl=>by
  induction hl with
  | @one x k hx h1 hk hn h3=>
   intro e
   have:=hc x k (hlt x hx) (hlt k hk) e hn
   rcases h k with h2|⟨_,h2,_⟩
   ·rw[Z1z hk]at h2;omega
   ·omega
  | @more x k hx h1 hk hn hl ih=>
   intro e
   have:=hc x k (hlt x hx) (hlt k hk) e hn
   rcases h k with h2|⟨_,h2,_⟩
   ·rw[Z1z hk,hl.mem.2]at h2;exact ih h2
   ·omega
 intro x
 by_cases hx:x∈E.sm
 ·rw[Z1z hx]
  by_cases hl:Z2y E s x
  ·rw[Z7c hl]
   rcases h x with h2|⟨_,h2,_⟩
   ·rw[Z1z hx,hl.mem.2]at h2;exact absurd h2 (key x hl)
   ·exact h2
  ·rw[Z5c hl,←Z1z (s:=s) hx]
   rcases h x with h2|⟨_,_,h2⟩
   ·exact h2
   ·exact absurd h2 hl
 ·rw[Z3u hx]
  rcases h x with h2|⟨_,_,h2⟩
  ·rw[h2,Z3u hx]
  ·exact absurd h2.mem.1 hx
end Go.Proofs.YtnmhaipjfpongacGreatDoor
namespace Go.Proofs.YtnmhaipjfpongacGreatDoor
open Go.ChangeShapes Go.WideShapes Go.ChangeAt Go.RowKit
def ranN(E:BE)(s:BS):Nat:=(E.sm.filter (ranP s)).length
theorem Zi9(E:BE)(s:BS):ranN E s≤E.sm.length:=List.length_filter_le _ _
theorem Zft{E:BE}{s s':BS}{i:Nat}(hn:E.sm.Nodup)(hi:i∈E.sm)(h0:ranP s i=false)(h:∀k,ranP s' k=(decide (k=i) || ranP s k)):ranN E s+1≤ranN E s':=by
 unfold ranN;have h1:(i :: E.sm.filter (ranP s)).Nodup:=List.nodup_cons.2 ⟨(fun hm=>by have:=(List.mem_filter.1 hm).2;rw[h0]at this;cases this),hn.filter _⟩
 have:=Z1h (b:=E.sm.filter (ranP s')) h1 fun x hx=>by
  rcases List.mem_cons.1 hx with rfl|hx
  ·exact List.mem_filter.2 ⟨hi,by rw[h];simp⟩
  ·obtain⟨h2,h3⟩:=List.mem_filter.1 hx
   exact List.mem_filter.2 ⟨h2,by rw[h,h3];simp⟩
 simpa using this
section
variable {wB wr w':World}{P:Nat→Addr}{base:Nat}{E:BE}{K:BK}{rb n:Nat}{s:BS}{f:Nat→Bool}
end
theorem Zfn{r:Rule}(h:Z0q r=0):r.word.length≤100:=by
 have h2:Z1b r.kind r.word r.ins.length=0:=by
  unfold Z0q at h;split at h
  ·cases h
  ·split at h
   ·rename_i h3;exact absurd h h3
   ·rename_i h3;exact Classical.byContradiction h3
 obtain⟨k,_,_,_,h5⟩:=Z6r h2;exact h5
section
variable {wB wr:World}{P:Nat→Addr}{base:Nat}{E:BE}{K:BK}{rb n:Nat}{s:BS}{o:List Nat}{is:Nat→Bool}
end
theorem Z3i.of{l:List Rule}{sm:List Nat}{T:FL}(h:Z34 l)(hs:∀r∈l,Zhh r)(hl:∀i∈sm,i<l.length)(hn:sm.length≤1000):Z3i ⟨l,sm,T⟩:=by
 have hm:∀i∈sm,BE.rule ⟨l,sm,T⟩ i∈l:=fun i hi=>Q4 (BE.rule_at (E:=⟨l,sm,T⟩) (hl i hi))
 exact⟨hn,fun i hi=>by have:=(hs _ (hm i hi)).kind;omega,fun i hi=>Zfn (h.2.1 _ (hm i hi)),fun i hi=>(hs _ (hm i hi)).many⟩
end Go.Proofs.YtnmhaipjfpongacGreatDoor
