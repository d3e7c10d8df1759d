/- A part of this claim's proof;each theorem bears its own conditions. -/
import Derived.LaidMore
import Derived.Stop.LaidErr
import Derived.Test.YtnmhaipjfpongacGreatDoorCards
import Derived.Test.YtnmhaipjfpongacGreatDoorTie
import Derived.Test.YtnmhaipjfpongacGreatDoorPR49
set_option maxRecDepth 100000
namespace Go.Proofs.YtnmhaipjfpongacGreatDoor
theorem Zfv:laidOutB Tryz.pinned.checked.prog=true:=by kernel_rfl
theorem Zbz:mapsRowed Tryz.pinned.checked.prog=true:=by kernel_rfl
theorem Zls:(Tryz.pinned.checked.prog.stops==[])=true:=by kernel_rfl
theorem Zby:(Tryz.pinned.checked.prog.stopKnobs==[])=true:=by kernel_rfl
theorem Zas:Tryz.pinned.checked.prog.stopsHeard=true:=by kernel_rfl
theorem Zds:Tryz.pinned.checked.prog.mayEnter=true:=by kernel_rfl
end Go.Proofs.YtnmhaipjfpongacGreatDoor
namespace Go.Proofs.YtnmhaipjfpongacGreatDoor.playRunsFacts
theorem k0:Rows.playRunsRow.wf (OpenSpec.ofChange Rows.playRunsSpec)=true:=by kernel_rfl
theorem k3:Tryz.f10.params.all (Tryz.pinned.checked.prog.readableRec ·)=true:=by kernel_rfl
theorem k4:namedTie Tryz.pinned.checked.prog Rows.playRunsRow.named Rows.playRunsSpec.vars=true:=by kernel_rfl
theorem k5:(Rows.playRunsRow.stops==[])=true:=by kernel_rfl
theorem k7:(Rows.playRunsRow.knobs==[])=true:=by kernel_rfl
theorem k9:(Rows.playRunsRow.inPlace==Tryz.pinned.checked.prog.inPlace 10)=true:=by kernel_rfl
theorem k10:(Rows.playRunsRow.unfollowed==Tryz.pinned.checked.prog.unfollowed 10)=true:=by kernel_rfl
theorem k11:(Rows.playRunsRow.recurses==Tryz.pinned.checked.prog.recurses 10)=true:=by kernel_rfl
theorem k12:(Rows.playRunsRow.named==Tryz.pinned.checked.prog.varsNamed 10)=true:=by kernel_rfl
theorem k13:(Rows.playRunsRow.maps==(Tryz.f10.params.toList++Rows.playRunsSpec.plain.varTypes Tryz.pinned.checked.prog).any (Tryz.pinned.checked.prog.mapsRec ·))=true:=by kernel_rfl
theorem k14:(Rows.playRunsRow.ifaces==(Tryz.f10.params.toList++Rows.playRunsSpec.plain.varTypes Tryz.pinned.checked.prog).any (Tryz.pinned.checked.prog.ifacesRec ·))=true:=by kernel_rfl
theorem k15:(Rows.playRunsRow.mapsOut==Tryz.pinned.checked.prog.mapsAmong Tryz.f10.resultTypes.toList)=true:=by kernel_rfl
theorem k16:(Rows.playRunsRow.loops==(Tryz.f10.params.toList++Rows.playRunsSpec.plain.varTypes Tryz.pinned.checked.prog).any (Tryz.pinned.checked.prog.loopsFrom ·))=true:=by kernel_rfl
theorem k17:(Rows.playRunsRow.wideKeys==(Tryz.f10.params.toList++Rows.playRunsSpec.plain.varTypes Tryz.pinned.checked.prog++Tryz.f10.resultTypes.toList).any (Tryz.pinned.checked.prog.wideKeysFrom ·))=true:=by kernel_rfl
theorem k18:Rows.playRunsSpec.vars.all (Tryz.pinned.checked.prog.varReadable ·)=true:=by kernel_rfl
theorem k19:Tryz.f10.resultTypes.all (fun t=>Tryz.pinned.checked.prog.readableRec t&&decide (t<Tryz.pinned.checked.prog.types.size))=true:=by kernel_rfl
theorem k20:(Rows.playRunsRow.ifacesOut==Tryz.f10.resultTypes.toList.any (Tryz.pinned.checked.prog.ifacesRec ·))=true:=by kernel_rfl
theorem k21:(Rows.playRunsRow.loopsOut==Tryz.f10.resultTypes.toList.any (Tryz.pinned.checked.prog.loopsFrom ·))=true:=by kernel_rfl
theorem k22:(Rows.playRunsRow.plainKeys==Tryz.pinned.checked.prog.plainKeys)=true:=by kernel_rfl
theorem k23:Rows.playRunsRow.shortTexts.isNone=true:=by kernel_rfl
theorem k26:(Rows.playRunsRow.lifted==Tryz.pinned.checked.prog.liftsFinal)=true:=by kernel_rfl
theorem k27:(Tryz.pinned.checked.prog.make==some Rows.playRunsRow.make)=true:=by kernel_rfl
theorem k28:(Rows.playRunsRow.kinds==(if Rows.playRunsRow.domain.isEmpty then []else Tryz.f10.params.toList.map fun t=>match Tryz.pinned.checked.prog.underlying t with|some (.int k)=>some k|_=>none))=true:=by kernel_rfl
theorem k29:(Rows.playRunsRow.pinned==Rows.playRunsRow.pinnedBy)=true:=by kernel_rfl
theorem k30:(Rows.playRunsRow.veiled==(Tryz.f10.params.toList++Rows.playRunsSpec.plain.varTypes Tryz.pinned.checked.prog++Tryz.f10.resultTypes.toList).any (Tryz.pinned.checked.prog.veiledRec ·))=true:=by kernel_rfl
theorem k31:Rows.playRunsRow.veiledFits Tryz.pinned.checked.prog Tryz.f10.params.toList (Tryz.f10.params.toList++Rows.playRunsSpec.plain.varTypes Tryz.pinned.checked.prog++Tryz.f10.resultTypes.toList)=true:=by kernel_rfl
theorem facts:joinedFacts Tryz.pinned.checked.prog 10 Tryz.f10 Rows.playRunsSpec Rows.playRunsRow=true:=by
 unfold joinedFacts;simp only[Bool.and_eq_true]
 repeat' apply And.intro
 ·exact k0
 ·exact Zfv
 ·exact Zbz
 ·exact k3
 ·exact k4
 ·exact k5
 ·exact Zls
 ·exact k7
 ·exact Zby
 ·exact k9
 ·exact k10
 ·exact k11
 ·exact k12
 ·exact k13
 ·exact k14
 ·exact k15
 ·exact k16
 ·exact k17
 ·exact k18
 ·exact k19
 ·exact k20
 ·exact k21
 ·exact k22
 ·exact k23
 ·exact Zas
 ·exact Zds
 ·exact k26
 ·exact k27
 ·exact k28
 ·exact k29
 ·exact k30
 ·exact k31
end Go.Proofs.YtnmhaipjfpongacGreatDoor.playRunsFacts
namespace Go.Proofs.YtnmhaipjfpongacGreatDoor
open Go.ChangeShapes Go.WideShapes Go.ChangeAt Go.RowKit
def Z12:List String:=["kilnyard/api.ErrText", "kilnyard/api.ErrBound", "kilnyard/api.ErrShape", "kilnyard/api.ErrName", "kilnyard/api.ErrKind", "kilnyard/api.ErrNone", "kilnyard/api.ErrExist", "kilnyard/api.ErrFull", "kilnyard/api.ErrCycle", "kilnyard/api.ErrLong", "kilnyard/api.ErrTurn", "kilnyard/api.ErrDone"]
abbrev sent(s:B):DataW Unit:=.iface "*errors.errorString" (.ptr (.agg [.lit (.string s)]))
def Zd1:DataW Unit→Bool
 | .iface n (.ptr (.agg [.lit (.string _)]))=>n == "*errors.errorString"
 | _=>false
theorem Zgq{d:DataW Unit}(h:Zd1 d=true):∃s,d=sent s:=by
 unfold Zd1 at h;split at h
 ·rename_i n s
  obtain rfl:n = "*errors.errorString" :=by simpa using h
  exact⟨s,rfl⟩
 ·cases h
theorem Zkq: "*" ++ "errors.errorString" = "*errors.errorString" :=by decide
theorem Zph(u:TypeId)(h:Tryz.prog.typeName? 3 u=some "*errors.errorString"):u=390:=
 typeName_ptr_named (nm:= "errors.errorString") (by rw[Zkq];kernel_rfl) (by kernel_rfl) (by decide) u (by rw[Zkq];exact h)
theorem Zgz:Tryz.prog.cellsOf 392=1:=by kernel_rfl
theorem Zff:Tryz.prog.cellsOf 9=1:=by kernel_rfl
theorem Zmw{n:String}(h:n∈Z12):∃g,Tryz.prog.globalNamed n=some g∧(Tryz.prog.globals[g]?).map (·.type)=some 32:=by
 have hall:(Z12.all fun n=>match Tryz.prog.globalNamed n with|some g=>(Tryz.prog.globals[g]?).map (·.type)==some 32|none=>false)=true:=by kernel_rfl
 have:=List.all_eq_true.1 hall n h
 revert this
 cases hg:Tryz.prog.globalNamed n with
 | none=>intro h;cases h
 | some g=>intro h;exact⟨g,rfl,by simpa using h⟩
def Held(W:World)(n:String)(a:Addr):Prop:=W.var? Tryz.prog n=some #[errV a]
theorem Held.same{W:World}{n:String}{a b:Addr}(h:Held W n a)(h':Held W n b):a=b:=by
 have:=h.symm.trans h'
 simpa using this
theorem Zgk{W:World}:∀{l:List (String×DataW Unit)} {ps:List MemPlace},DataW.LaidVars Tryz.prog W l ps→ps.Nodup→
  (∀b off,MemPlace.cell b off∈ps→∀u v,W.cell? ⟨b,off,none⟩=some (.iface u v)→Value.okWide Tryz.prog W .any 0 u v)→
  (∀x∈l,x.1∈Z12→∃s,x.2=sent s)→
  (∀x∈l,x.1∈Z12→∃a,Held W x.1 a∧MemPlace.cell a.block a.off∈ps)∧
  l.Pairwise (fun x y=>∀a b,x.1∈Z12→y.1∈Z12→Held W x.1 a→Held W y.1 b→a≠b)
 | [],_,_,_,_,_=>⟨fun x hx=>(by cases hx),List.Pairwise.nil⟩
 | (n,d) :: r,ps,hv,hnd,hok,hs=>by
  obtain⟨g,t,cs,f,p,q,hg,ht,hvar,hd,hr,rfl⟩:=hv;have hq:q.Nodup:=(List.nodup_append.1 hnd).2.1;obtain⟨i1,i2⟩:=Zgk hr hq (fun b off hm=>hok b off (List.mem_append_right _ hm)) (fun x hx=>hs x (List.mem_cons_of_mem _ hx))
  have key:n∈Z12→∃a,Held W n a∧MemPlace.cell a.block a.off∈p:=fun hn=>by
   obtain⟨s,hs0⟩:=hs (n,d) List.mem_cons_self hn;have hs1:d=sent s:=hs0;subst hs1;obtain⟨g',hg',ht'⟩:=Zmw hn;obtain rfl:=Option.some.inj (hg.symm.trans hg');obtain rfl:=Option.some.inj (ht.symm.trans ht');obtain⟨lc⟩:=cs;have ok0:∀u v,lc=[.iface u v]→Value.okWide Tryz.prog W .any 0 u v:=fun u v e=>by
    subst e;exact hok g 0 (by simp[MemPlace.row]) u v (by simpa using World.var?_cell hg hvar 0)
   obtain⟨a,s',rfl,_,_,_,rfl⟩:=errorString_of_trod Tryz.underlying32 Zph Tryz.underlying390 Tryz.underlying392 rfl rfl Tryz.underlying9 Zgz Zff hd ok0;exact⟨a,hvar,by simp[MemPlace.row]⟩
  refine⟨fun x hx hn=>?_,List.Pairwise.cons (fun y hy a b hx hny ha hb=>?_) i2⟩
  ·rcases List.mem_cons.1 hx with rfl|hx
   ·obtain⟨a,ha,hm⟩:=key hn
    exact⟨a,ha,List.mem_append_left _ (List.mem_append_right _ hm)⟩
   ·obtain⟨a,ha,hm⟩:=i1 x hx hn
    exact⟨a,ha,List.mem_append_right _ hm⟩
  ·obtain⟨a',ha',hm⟩:=key hx
   obtain⟨b',hb',hm'⟩:=i1 y hy hny;obtain rfl:=ha.same ha';obtain rfl:=hb.same hb';rintro rfl;exact(List.nodup_append.1 hnd).2.2 _ (List.mem_append_right _ hm) _ hm' rfl
theorem Zgu{W:World}{l:List (String×DataW Unit)}(h:laidMet Tryz.prog l W)(hs:(l.all fun x=>!(Z12.contains x.1) || Zd1 x.2)=true) :
  (∀n∈Z12,(l.map (·.1)).contains n=true→∃a c t,Held W n a∧W.heap[a.block]?=some (.cells c t (0,0)))∧
  (∀n m a,(l.map (·.1)).contains n=true→(l.map (·.1)).contains m=true→n∈Z12→m∈Z12→Held W n a→Held W m a→n=m):=by
 obtain⟨ps,hv,hnd,hrows⟩:=h;have hs':∀x∈l,x.1∈Z12→∃s,x.2=sent s:=fun x hx hn=>by
  have:=List.all_eq_true.1 hs x hx
  refine Zgq ?_;simpa [hn] using this
 obtain⟨h1,h2⟩:=Zgk hv hnd (fun b off hm=>(hrows b off hm).2) hs'
 refine⟨fun n hn hc=>?_,fun n m a hc hc' hn hm ha hb=>?_⟩
 ·obtain⟨x,hx,rfl⟩:∃x∈l,x.1=n:=by simpa using hc
  obtain⟨a,ha,hm⟩:=h1 x hx hn;obtain⟨c,t,hct⟩:=(hrows a.block a.off hm).1;exact⟨a,c,t,ha,hct⟩
 ·obtain⟨x,hx,rfl⟩:∃x∈l,x.1=n:=by simpa using hc
  obtain⟨y,hy,rfl⟩:∃x∈l,x.1=m:=by simpa using hc'
  by_cases hxy:x.1=y.1
  ·exact hxy
  obtain⟨i,hi,rfl⟩:=List.mem_iff_getElem.1 hx;obtain⟨j,hj,rfl⟩:=List.mem_iff_getElem.1 hy;rcases Nat.lt_trichotomy i j with h|h|h
  ·exact absurd rfl (List.pairwise_iff_getElem.1 h2 i j hi hj h a a hn hm ha hb)
  ·subst h;rfl
  ·exact absurd rfl (List.pairwise_iff_getElem.1 h2 j i hj hi h a a hm hn hb ha)
theorem Za9{W:World}{hs:List (String×DataW Unit)}(h:handlesMet Tryz.prog hs W)(hm:("errors.errorType",(.iface "internal/reflectlite.rtype" (.agg [.ptr (.lit (.string [101,114,114,111,114]))]):DataW Unit))∈hs):W.cell? ⟨12,0,none⟩=some Zeh:=by
 obtain⟨name,u,ty,e1,e2,e3,e4,e5⟩:=h _ hm;have en:name=[101,114,114,111,114]:=(Option.some.inj e1).symm;subst en;have rt:(Tryz.prog.cutTypes.find? (·.1 == "internal/reflectlite.rtype")).map (·.2)=some 326:=by kernel_rfl
 have oneRow:((List.range 429).filter fun t=>Tryz.prog.rowNamed t [101,114,114,111,114])=[32]:=by kernel_rfl
 have size:Tryz.prog.types.size=429:=by kernel_rfl
 have et:Tryz.prog.globalNamed "errors.errorType" = some 12:=by kernel_rfl
 obtain rfl:=Option.some.inj (rt.symm.trans e2);have hm:ty∈(List.range 429).filter fun t=>Tryz.prog.rowNamed t [101,114,114,111,114]:=List.mem_filter.2 ⟨List.mem_range.2 (by rw[←size];exact e3),e4⟩
 rw[oneRow]at hm;obtain rfl:=List.mem_singleton.1 hm;have hh:typeHandle Tryz.prog 32=.pointer (some ⟨26,32,none⟩):=by kernel_rfl
 rw[hh]at e5;exact(World.var?_cell et e5 0).trans rfl
theorem sents_of{W:World}{l hs:List (String×DataW Unit)}(h:laidMet Tryz.prog l W)(hh:handlesMet Tryz.prog hs W)
  (c1:(l.all fun x=>!(Z12.contains x.1) || Zd1 x.2)=true) (c2:(Z12.all fun n=>(l.map (·.1)).contains n)=true)
  (c3:("errors.errorType",(.iface "internal/reflectlite.rtype" (.agg [.ptr (.lit (.string [101,114,114,111,114]))]):DataW Unit))∈hs):∃p,Sents W p:=by
 obtain⟨h1,h2⟩:=Zgu h c1;have hin:∀n∈Z12,(l.map (·.1)).contains n=true:=fun n hn=>List.all_eq_true.1 c2 n hn
 have key:∀i:Nat,∃a:Addr,∀n,Z12[i]?=some n→∃c t,Held W n a∧W.heap[a.block]?=some (.cells c t (0,0)):=fun i=>by
  cases hi:Z12[i]? with
  | none=>exact⟨⟨0,0,none⟩,fun n h=>by cases h⟩
  | some n=>
   obtain⟨a,c,t,h3⟩:=h1 n (Q4 hi) (hin n (Q4 hi));exact⟨a,fun m hm=>by cases hm;exact⟨c,t,h3⟩⟩
 have hvars:Zj6.map some=Z12.map Tryz.prog.globalNamed:=by kernel_rfl
 have hlen:Z12.length=12:=by decide
 have hnd:Z12.Nodup:=by decide
 have at_:∀i,i<12→∃n,Z12[i]?=some n:=fun i hi=>⟨_,Q1 (by omega)⟩
 refine⟨fun i=>Classical.choose (key i),fun i g hg=>?_,fun i hi=>?_,fun i j hi hj he=>?_,Za9 hh c3⟩
 ·have hg':(Z12.map Tryz.prog.globalNamed)[i]?=some (some g):=by rw[←hvars,List.getElem?_map,hg];rfl
  rw[List.getElem?_map]at hg';obtain⟨n,hn,hgn⟩:=Option.map_eq_some_iff.1 hg';obtain⟨c,t,hd,_⟩:=Classical.choose_spec (key i) n hn;simpa using World.var?_cell hgn hd 0
 ·obtain⟨n,hn⟩:=at_ i hi
  obtain⟨c,t,_,hr⟩:=Classical.choose_spec (key i) n hn;exact⟨c,t,hr⟩
 ·obtain⟨n,hn⟩:=at_ i hi
  obtain⟨m,hm⟩:=at_ j hj;obtain⟨_,_,hd,_⟩:=Classical.choose_spec (key i) n hn;obtain⟨_,_,hd',_⟩:=Classical.choose_spec (key j) m hm;have he':Classical.choose (key i)=Classical.choose (key j):=he;rw[he']at hd;have hnm:=h2 n m _ (hin n (Q4 hn)) (hin m (Q4 hm)) (Q4 hn) (Q4 hm) hd hd';subst hnm;have:=(List.getElem?_inj (by omega) hnd).1 (hn.trans hm.symm)
  exact this
theorem Zke{W:World}{n:String}{d:DataW Unit}{g:Nat}(hg:Tryz.prog.globalNamed n=some g)(ht:(Tryz.prog.globals[g]?).map (·.type)=some 32)(hd0:Zd1 d=true):∀{l:List (String×DataW Unit)} {ps:List MemPlace},DataW.LaidVars Tryz.prog W l ps→
  (∀b off,MemPlace.cell b off∈ps→∀u v,W.cell? ⟨b,off,none⟩=some (.iface u v)→Value.okWide Tryz.prog W .any 0 u v)→(n,d)∈l→∃a,W.cell? ⟨g,0,none⟩=some (errV a)
 | [],_,_,_,h=>by cases h
 | (n',d') :: r,ps,hv,hok,hm=>by
  obtain⟨g',t,cs,f,p,q,hg',ht',hvar,hd,hr,rfl⟩:=hv;rcases List.mem_cons.1 hm with e|hm
  ·cases e
   obtain⟨s,rfl⟩:=Zgq hd0;obtain rfl:=Option.some.inj (hg.symm.trans hg');obtain rfl:=Option.some.inj (ht'.symm.trans ht);obtain⟨lc⟩:=cs;have ok0:∀u v,lc=[.iface u v]→Value.okWide Tryz.prog W .any 0 u v:=fun u v e=>by
    subst e;exact hok g 0 (by simp[MemPlace.row]) u v (by simpa using World.var?_cell hg hvar 0)
   obtain⟨a,s',rfl,_,_,_,rfl⟩:=errorString_of_trod Tryz.underlying32 Zph Tryz.underlying390 Tryz.underlying392 rfl rfl Tryz.underlying9 Zgz Zff hd ok0;exact⟨a,by simpa using World.var?_cell hg hvar 0⟩
  ·exact Zke hg ht hd0 hr (fun b off hm=>hok b off (List.mem_append_right _ hm)) hm
theorem Zaz{W:World}{l:List (String×DataW Unit)}(h:laidMet Tryz.prog l W){n:String}{g:Nat}(hg:Tryz.prog.globalNamed n=some g)(ht:(Tryz.prog.globals[g]?).map (·.type)=some 32)(hs:(l.any fun x=>x.1==n&&Zd1 x.2)=true) :
  ∃a,W.cell? ⟨g,0,none⟩=some (errV a):=by
 obtain⟨ps,hv,_,hrows⟩:=h;obtain⟨⟨n',d⟩,hm,hc⟩:=List.any_eq_true.1 hs;simp only[Bool.and_eq_true,beq_iff_eq]at hc;obtain⟨rfl,hd⟩:=hc;exact Zke hg ht hd hv (fun b off hm=>(hrows b off hm).2) hm
end Go.Proofs.YtnmhaipjfpongacGreatDoor
namespace Go.Proofs.YtnmhaipjfpongacGreatDoor.playRunsDone
open Go.ChangeShapes Go.WideShapes Go.ChangeAt Go.RowKit
theorem own:ownKnob Tryz.prog.godebug=none:=by kernel_rfl
theorem laidOut:laidOutB Tryz.prog=true:=by kernel_rfl
theorem max_of{W:World}(h:W.ShapedOpen Tryz.prog):Z1m W:=
 cell_of_shapedOpen_int (zero:=#[.int .i64 0]) (t:=3) h (of_decide_eq_true (by kernel_rfl)) (by kernel_rfl) rfl (by kernel_rfl) (by kernel_rfl) Tryz.underlying3
theorem sents{W:World}(h:laidMetH Tryz.prog Rows.playRunsRow.laid W):∃p,Sents W p:=by
 have h':laidMet Tryz.prog (Rows.playRunsRow.laid.filter fun x=>x.2.handleName?.isNone) W∧handlesMet Tryz.prog (Rows.playRunsRow.laid.filter fun x=>x.2.handleName?.isSome) W:=h
 exact sents_of h'.1 h'.2 (by decide +kernel) (by decide +kernel) (List.mem_cons_self ..)
theorem pow_of{W:World}(h:laidMetH Tryz.prog Rows.playRunsRow.laid W):Pow W:=by
 have h':laidMet Tryz.prog (Rows.playRunsRow.laid.filter fun x=>x.2.handleName?.isNone) W∧handlesMet Tryz.prog (Rows.playRunsRow.laid.filter fun x=>x.2.handleName?.isSome) W:=h
 have h2:=(h'.1).tail.tail;exact Lib.tabIs_of_head (g:=13) (by kernel_rfl) (by kernel_rfl) Tryz.underlying359 Tryz.underlying309 (by kernel_rfl) (by kernel_rfl) h2
theorem atoi_of{W:World}(h:laidMetH Tryz.prog Rows.playRunsRow.laid W):Z41 W:=by
 have h':laidMet Tryz.prog (Rows.playRunsRow.laid.filter fun x=>x.2.handleName?.isNone) W∧handlesMet Tryz.prog (Rows.playRunsRow.laid.filter fun x=>x.2.handleName?.isSome) W:=h
 obtain⟨a1,e1⟩:=Zaz h'.1 (n:= "strconv.ErrSyntax") (g:=17) (by kernel_rfl) (by kernel_rfl) (by decide +kernel)
 obtain⟨a2,e2⟩:=Zaz h'.1 (n:= "strconv.ErrRange") (g:=18) (by kernel_rfl) (by kernel_rfl) (by decide +kernel)
 exact⟨⟨_,_,e1⟩,_,_,e2⟩
theorem Znp(os:Os)(args:Array Value):laidMetH Tryz.prog Rows.playRunsRow.laid (((World.doorLaid Tryz.prog 400 os).layVars Tryz.prog (Rows.playRunsRow.laid.filter fun x=>x.2.handleName?.isNone)).forCall (fun _ _=>0) ⟨#[],args,[]⟩).memory:=
 laidMetH_of_parts3 (fuel:=8) (Zgl args (by kernel_rfl) (by kernel_rfl)) (by kernel_rfl) (by kernel_rfl)
theorem lifted(os:Os)(started:os.Started)(H:Type)(enc:TypeId×Value→H) :
  ReturnsInHanded {} Tryz.checked os 10 .any (fun w args=>(Rows.playRunsSpec.pre enc Tryz.prog Tryz.f10 [] false w args∧laidMetH Tryz.prog Rows.playRunsRow.laid w)∧sizedMet enc Tryz.prog Tryz.f10 (OpenSpec.ofChange Rows.playRunsSpec) false w args)
   (Rows.playRunsSpec.post enc Tryz.prog Tryz.f10 false true false false):=by
 refine Zj2 (C:=Tryz.checked) (X:=fun w _=>laidMetH Tryz.prog Rows.playRunsRow.laid w) (fun _ _ _ hh h=>h.of_heap hh) own started (by kernel_rfl) Tryz.func10
  (ChangeSpec.witness_shaped (enc:=enc) (C:=Tryz.checked) (os:=os) (X:=fun w _=>laidMetH Tryz.prog Rows.playRunsRow.laid w) false ((World.doorLaid Tryz.prog 400 os).layVars Tryz.prog (Rows.playRunsRow.laid.filter fun x=>x.2.handleName?.isNone)) #[.slice none 0 0] 8 (World.layVars_os _ _ _) (World.shaped_of_ZipB (by kernel_rfl) (by kernel_rfl)) (by kernel_rfl) (by kernel_rfl) (by kernel_rfl) (Znp os _)) ?_
 intro W base args ds gs before hval0 hW _ hsz0 hL hsh _
 have hval:∀(j:Nat) t v,Tryz.f10.params[j]?=some t→args[j]?=some v→Value.okWide Tryz.prog W .any base t v:=hval0
 have hsz:(DataW.weightsEach Tryz.prog (Tryz.f10.params.toList++Rows.playRunsSpec.plain.varTypes Tryz.prog) (ds++gs)).all (·≤reachBytes)=true:=hsz0
 clear hsz0;have hW':=hW;obtain⟨p,q,hA0,hV,rfl,hfz,hnd⟩:=hW;have hA:DataW.TrodAll enc Tryz.prog W 0 (fun _=>true) true Tryz.f10.params.toList args.toList ds p:=hA0
 rw[Tryz.params10]at hA hval hsz;obtain⟨v0,vs0,d0,ds0,p0,q0,hargs,rfl,rfl,h0,r0⟩:=trodAll_cons hA;obtain⟨rfl,rfl,rfl⟩:=trodAll_nil r0;obtain rfl:args = #[v0]:=by cases args;simp_all
 obtain⟨rfl,rfl⟩:=trodVars_none hV;have k0:=h0;have lt0:∀x∈p0,x.block<W.heap.size:=by obtain⟨m,hm⟩:=k0;exact DataW.trod_lt m _ _ _ hm
 have rc0:=Zo5 hsz (j:=0) (t:=46) (d:=d0) rfl rfl;obtain⟨a0,len0,cap0,rfl⟩:=okWide_slice Tryz.underlying46 (hval 0 46 v0 rfl rfl);obtain⟨fuel0,hf0⟩:=h0;obtain⟨l0,hlen0,rd0,rb0⟩:=Zig (x:=(d0,p0)) (by simpa [Value.cells] using hf0) rc0
 clear hA0 hval0;simp only[List.append_nil]at hW';obtain⟨pt,hs⟩:=sents hL;have hmax:=max_of hsh;have hav:=atoi_of hL;have hpow:=pow_of hL;have walk:Calls Tryz.prog 10 #[.slice a0 len0 cap0] W fun e w'=>e=.returned (.bool true)∧Ext W w':=
  Zfa W pt l0 _ rd0 (fun z hz=>(rb0 z hz).2) ⟨hs.errs _,hmax,hav,hpow⟩ hs
 refine walk.mono fun e W' ⟨he,hext⟩=>?_
 subst he;have bel:=hext.extBelow;exact⟨_,rfl,_,_,_,[],_,[],hW',trodAll_mk1 (shut_bool Tryz.underlying4 _),(trodAll_cons_mk (Below.trod laidOut (by kernel_rfl) (of_decide_eq_true (by kernel_rfl)) k0 bel lt0) trodAll_mk0),rfl,bel.frame _,fun h=>by cases h⟩
theorem fnNamed:Tryz.pinned.checked.prog.funcNamed Rows.playRunsRow.func=some 10:=by kernel_rfl
theorem facts:joinedFacts Tryz.pinned.checked.prog 10 Tryz.f10 Rows.playRunsSpec Rows.playRunsRow=true:=playRunsFacts.facts
theorem inst:Tryz.f10.isInstance Tryz.pinned.checked.prog Rows.playRunsRow.origin Rows.playRunsRow.targs:=of_decide_eq_true (by kernel_rfl)
theorem wrap:Tryz.f10.isWrapper Tryz.pinned.checked.prog Rows.playRunsRow.wrapper Rows.playRunsRow.mainSum:=by
 unfold Func.isWrapper;first|(rw[if_pos (by decide +kernel)];kernel_rfl)|(rw[if_neg (by decide +kernel)];exact⟨rfl,rfl⟩)
theorem said:Rows.PlayRunsSaid:=
 OpenClaim.holds_of_wide 10 Tryz.f10 rfl rfl rfl rfl rfl rfl rfl ⟨rfl,rfl,rfl,rfl,rfl⟩ rfl rfl rfl rfl rfl fnNamed Tryz.func10 facts
  inst wrap (fun os started H enc _=>lifted os started H enc)
end Go.Proofs.YtnmhaipjfpongacGreatDoor.playRunsDone
