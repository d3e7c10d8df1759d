/- A part of this claim's proof;each theorem bears its own conditions. -/
import Derived.Test.YtnmhaipjfpongacGreatDoorPR31
set_option maxRecDepth 100000
set_option maxHeartbeats 4000000
namespace Go.Proofs.YtnmhaipjfpongacGreatDoor
open Go.ChangeShapes Go.WideShapes Go.ChangeAt Go.RowKit
def Z0d(n:Nat):B:=if n=0 then []else Zcf n
theorem Z4j{n:Nat}(h4:n≤4):(Z0d n==[119,97,105,116,115])=(n==1):=by
 rcases(show n=0∨n=1∨n=2∨n=3∨n=4 by omega)with rfl|rfl|rfl|rfl|rfl <;> rfl
theorem Zht{n:Nat}(h4:n≤4):(Z0d n==[100,111,110,101])=(n==2):=by
 rcases(show n=0∨n=1∨n=2∨n=3∨n=4 by omega)with rfl|rfl|rfl|rfl|rfl <;> rfl
theorem Zdi{n:Nat}(h4:n≤4):(Z0d n==[102,97,105,108,101,100])=(n==3):=by
 rcases(show n=0∨n=1∨n=2∨n=3∨n=4 by omega)with rfl|rfl|rfl|rfl|rfl <;> rfl
theorem Zhs{n:Nat}(h4:n≤4):(Z0d n==[108,101,102,116])=(n==4):=by
 rcases(show n=0∨n=1∨n=2∨n=3∨n=4 by omega)with rfl|rfl|rfl|rfl|rfl <;> rfl
theorem Zaf{n:Nat}(h4:n≤4):(Z0d n==[])=(n==0):=by
 rcases(show n=0∨n=1∨n=2∨n=3∨n=4 by omega)with rfl|rfl|rfl|rfl|rfl <;> rfl
structure MK where
 b:Nat
 t:Nat
 tv:Value
 la:Option Addr
 lc:Nat
 st:Nat
 ou:Nat
 hi:Nat
 wh:Nat
 cp:Value
 q:Nat→Prop
abbrev TabS(b n:Nat):Value:=.slice (some ⟨b,0,none⟩) n n
structure MTab(w:World)(K:MK)(n:Nat)(g:Nat→Nat)(ou:Nat→B)(hi:Nat→Bool)(wh:Nat→Nat):Prop where
 st:Z0s w K.st 9 n (fun i=>S (Z0d (g i)))
 ou:Z0s w K.ou 9 n (fun i=>S (ou i))
 hi:Z0s w K.hi 4 n (fun i=>.bool (hi i))
 wh:Z0s w K.wh 3 n (fun i=>IN (wh i))
def InM(K:MK)(i:Nat):Prop:=i=K.st∨i=K.ou∨i=K.hi∨i=K.wh
def InMA(K:MK)(i:Nat):Prop:=i=K.b∨i=K.t∨K.tv.ownBlock=some i∨InM K i
abbrev Zge(E:BE)(K:MK):Array Value:=#[PTR K.t,.slice K.la E.l.length K.lc,TabS K.st E.l.length,TabS K.ou E.l.length,TabS K.hi E.l.length,TabS K.wh E.l.length,K.cp]
def Mute(w:World)(b:Nat):Prop:=∃cs t,w.heap[b]?=some (.cells cs t (0,0))∧∀(j:Nat) x,cs[j]?≠some (S x)
theorem Mute.ne{w:World}{b' k:Nat}{x:B}{b:Nat}(h:Mute w b)(hc:w.cell? ⟨b',k,none⟩=some (S x)):b'≠b:=by
 rintro rfl;obtain⟨cs,t,h1,h2⟩:=h;have:=Z00 h1 k;rw[hc]at this;exact h2 _ _ this.symm
theorem Rd.mute{w w':World}{p:Nat→Prop}{v:Value}{L:List B}(h:Rd S w v L)(hp:∀i,p i→Mute w i)(ho:Only p w w'):Rd S w' v L:=by
 obtain⟨a,cap,rfl,h1,h2,h3⟩:=h;refine⟨a,cap,rfl,h1,h2,fun hne=>?_⟩
 obtain⟨b',off,rfl,h4⟩:=h3 hne;exact⟨b',off,rfl,fun i x hx=>ho.cellOf (h4 i x hx) (fun e=>(hp _ e).ne (h4 i x hx) rfl)⟩
theorem RdR.mute{w w':World}{p:Nat→Prop}{v:Value}{l:List Rule}(h:RdR w v l)(hp:∀i,p i→Mute w i)(ho:Only p w w'):RdR w' v l:=by
 obtain⟨a,cap,h1,h2,h3,h4⟩:=h;refine⟨a,cap,h1,h2,h3,fun hne=>?_⟩
 obtain⟨b',off,h5,h6⟩:=h4 hne;refine⟨b',off,h5,fun i r hi=>?_⟩
 obtain⟨u,hu,c0,c1,c2,c3⟩:=h6 i r hi;have hb:¬p b':=fun e=>(hp _ e).ne c0 rfl
 exact⟨u,hu.mute hp ho,ho.cellOf c0 hb,ho.cellOf c1 hb,ho.cellOf c2 hb,ho.cellOf c3 hb⟩
structure MAt(w0 w:World)(E:BE)(K:MK)(g:Nat→Nat)(ou:Nat→B)(hi:Nat→Bool)(wh:Nat→Nat):Prop where
 ext:Only K.q w0 w
 quiet:∀i,K.q i→Mute w0 i
 cells:w.heap[K.b]?=some (.cells (Zge E K) 113 (0,0))
 tree:Z20 w w0.heap.size K.t K.tv E.T
 rules:RdR w0 (.slice K.la E.l.length K.lc) E.l
 tab:MTab w K E.l.length g ou hi wh
 ne:K.st≠K.ou
 lo:w0.heap.size≤K.b∧w0.heap.size≤K.t∧w0.heap.size≤K.st∧w0.heap.size≤K.ou∧w0.heap.size≤K.hi∧w0.heap.size≤K.wh
def outM(E:BE)(s:BS)(i:Nat):B:=if mst E s i=2 then(E.ans i).1 else []
def hitM(E:BE)(s:BS)(i:Nat):Bool:=mst E s i==2&&s.hit i
def whyM(E:BE)(s:BS)(i:Nat):Nat:=if mst E s i=3 then(E.ans i).2 else 0
abbrev Z2x(w0 w:World)(E:BE)(K:MK)(s:BS):Prop:=MAt w0 w E K (mst E s) (outM E s) (hitM E s) (whyM E s)
theorem Z0s.ne{w:World}{a b n m:Nat}{e e':TypeId}{f f':Nat→Value}(h:Z0s w a e n f)(k:Z0s w b e' m f')(he:e≠e'):a≠b:=by
 rintro rfl;obtain⟨c,h1,_⟩:=h;obtain⟨c',h2,_⟩:=k;rw[h1]at h2;cases h2;exact he rfl
theorem Z0s.ne_cells{w:World}{a b n:Nat}{e e':TypeId}{f:Nat→Value}{cs:Array Value}{fr:Nat×Nat}(h:Z0s w a e n f)(k:w.heap[b]?=some (.cells cs e' fr))(he:e≠e'):b≠a:=by
 rintro rfl;obtain⟨c,h1,_⟩:=h;rw[h1]at k;cases k;exact he rfl
theorem Z0s.ne_row{w:World}{a n m base size:Nat}{e e':TypeId}{f:Nat→Value}{v:Value}{xs:List Value}(h:Z0s w a e n f)(k:w.ownsRow base e' size v m xs)(he:e≠e'):v.ownBlock≠some a:=by
 intro hv
 obtain⟨c,h1,_⟩:=h;exact Zam k h1 (Ne.symm he) a hv rfl
section
variable {w0 w w':World}{E:BE}{K:MK}{s:BS}{n:Nat}{g g':Nat→Nat}{ou ou':Nat→B}{hi hi':Nat→Bool}{wh wh':Nat→Nat}
theorem MTab.later{p:Nat→Prop}(h:MTab w K n g ou hi wh)(ho:Only p w w')(hp:∀i,InM K i→¬p i):MTab w' K n g ou hi wh:=
 ⟨h.st.later ho (hp _ (.inl rfl)),h.ou.later ho (hp _ (.inr (.inl rfl))),h.hi.later ho (hp _ (.inr (.inr (.inl rfl)))),h.wh.later ho (hp _ (.inr (.inr (.inr rfl))))⟩
theorem MAt.laterQ{p:Nat→Prop}(h:MAt w0 w E K g ou hi wh)(ho:Only p w w')(hx:∀i,p i→w0.heap.size≤i∨K.q i)(hp:∀i,InMA K i→¬p i):MAt w0 w' E K g ou hi wh:=
 ⟨h.ext.trans ho (fun _ _ h=>h) (fun i hi e=>(hx i e).elim (fun h=>by omega) id),h.quiet,ho.heapOf h.cells (hp _ (.inl rfl)),h.tree.later ho (hp _ (.inr (.inl rfl))) (fun i e=>hp _ (.inr (.inr (.inl e)))),h.rules,h.tab.later ho (fun i e=>hp _ (.inr (.inr (.inr e)))),h.ne,h.lo⟩
theorem MAt.later{p:Nat→Prop}(h:MAt w0 w E K g ou hi wh)(ho:Only p w w')(hx:∀i,p i→w0.heap.size≤i)(hp:∀i,InMA K i→¬p i):MAt w0 w' E K g ou hi wh:=h.laterQ ho (fun i e=>.inl (hx i e)) hp
theorem MAt.rd(h:MAt w0 w E K g ou hi wh):RdR w (.slice K.la E.l.length K.lc) E.l:=h.rules.mute h.quiet h.ext
theorem MAt.ext0(h:MAt w0 w E K g ou hi wh)(hq:K.q=fun _=>False):Ext w0 w:=by have h1:=h.ext;rw[hq]at h1;exact h1
theorem MAt.withQ(h:MAt w0 w E K g ou hi wh)(hq:K.q=fun _=>False)(q:Nat→Prop)(h2:∀i,q i→Mute w0 i):MAt w0 w E { K with q:=q } g ou hi wh:=
 ⟨Only.of_ext (h.ext0 hq),h2,h.cells,h.tree,h.rules,⟨h.tab.st,h.tab.ou,h.tab.hi,h.tab.wh⟩,h.ne,h.lo⟩
theorem MAt.grow(h:MAt w0 w E K g ou hi wh)(ho:Ext w w'):MAt w0 w' E K g ou hi wh:=h.later ho (fun _ h=>h.elim) (fun _ _ h=>h)
theorem MAt.lt(h:MAt w0 w E K g ou hi wh):∀i,InMA K i→i<w.heap.size:=by
 rintro i (rfl|rfl|e|rfl|rfl|rfl|rfl)
 ·exact Z03 h.cells
 ·exact Z03 h.tree.cells
 ·exact(h.tree.row.lt i e).2
 ·exact h.tab.st.lt
 ·exact h.tab.ou.lt
 ·exact h.tab.hi.lt
 ·exact h.tab.wh.lt
theorem MAt.ge(h:MAt w0 w E K g ou hi wh):∀i,InMA K i→w0.heap.size≤i:=by
 obtain⟨h1,h2,h3,h4,h5,h6⟩:=h.lo;rintro i (rfl|rfl|e|rfl|rfl|rfl|rfl)
 ·exact h1
 ·exact h2
 ·exact(h.tree.row.lt i e).1
 ·exact h3
 ·exact h4
 ·exact h5
 ·exact h6
theorem MAt.congr(h:MAt w0 w E K g ou hi wh)(h1:∀i,i<E.l.length→g i=g' i)(h2:∀i,i<E.l.length→ou i=ou' i)(h3:∀i,i<E.l.length→hi i=hi' i)(h4:∀i,i<E.l.length→wh i=wh' i):MAt w0 w E K g' ou' hi' wh':=
 ⟨h.ext,h.quiet,h.cells,h.tree,h.rules,⟨h.tab.st.congr fun i h=>by rw[h1 i h],h.tab.ou.congr fun i h=>by rw[h2 i h],h.tab.hi.congr fun i h=>by rw[h3 i h],h.tab.wh.congr fun i h=>by rw[h4 i h]⟩,h.ne,h.lo⟩
theorem MAt.change(h:MAt w0 w E K g ou hi wh)(ho:Only (InM K) w w')(ht:MTab w' K E.l.length g' ou' hi' wh'):MAt w0 w' E K g' ou' hi' wh':=
 have ge:=h.ge
 have n1:¬InM K K.b:=by
  rintro(e|e|e|e)
  ·exact h.tab.st.ne_cells h.cells (by decide) e
  ·exact h.tab.ou.ne_cells h.cells (by decide) e
  ·exact h.tab.hi.ne_cells h.cells (by decide) e
  ·exact h.tab.wh.ne_cells h.cells (by decide) e
 have n2:¬InM K K.t:=by
  rintro(e|e|e|e)
  ·exact h.tab.st.ne_cells h.tree.cells (by decide) e
  ·exact h.tab.ou.ne_cells h.tree.cells (by decide) e
  ·exact h.tab.hi.ne_cells h.tree.cells (by decide) e
  ·exact h.tab.wh.ne_cells h.tree.cells (by decide) e
 have n3:∀i,K.tv.ownBlock=some i→¬InM K i:=by
  rintro i e (rfl|rfl|rfl|rfl)
  ·exact h.tab.st.ne_row h.tree.row (by decide) e
  ·exact h.tab.ou.ne_row h.tree.row (by decide) e
  ·exact h.tab.hi.ne_row h.tree.row (by decide) e
  ·exact h.tab.wh.ne_row h.tree.row (by decide) e
 ⟨h.ext.trans ho (fun _ _ h=>h) (fun i hi e=>by have:=ge i (.inr (.inr (.inr e)));omega),h.quiet,ho.heapOf h.cells n1,h.tree.later ho n2 n3,h.rules,ht,h.ne,h.lo⟩
theorem Z0v{b k:Nat}{v:Value}:Only (fun i=>i=b) w (w.setCell ⟨b,k,none⟩ v):=Only.set (p:=fun i=>i=b) v rfl
theorem MAt.setSt(h:MAt w0 w E K g ou hi wh)(k x:Nat)(hg:∀i,g' i=if i=k then x else g i):MAt w0 (w.setCell ⟨K.st,k,none⟩ (S (Z0d x))) E K g' ou hi wh∧Only (InM K) w (w.setCell ⟨K.st,k,none⟩ (S (Z0d x))):=by
 have ho:Only (InM K) w (w.setCell ⟨K.st,k,none⟩ (S (Z0d x))):=Z0v.mono fun i _ e=>.inl e
 refine⟨h.change ho ⟨(h.tab.st.set k (S (Z0d x))).congr fun i _=>?_,h.tab.ou.later Z0v (Ne.symm h.ne),h.tab.hi.later Z0v (Ne.symm (h.tab.st.ne h.tab.hi (by decide))),h.tab.wh.later Z0v (Ne.symm (h.tab.st.ne h.tab.wh (by decide)))⟩,ho⟩
 rw[hg];by_cases e:i=k
 ·rw[if_pos e,if_pos e]
 ·rw[if_neg e,if_neg e]
theorem MAt.setOu(h:MAt w0 w E K g ou hi wh)(k:Nat)(x:B)(hg:∀i,ou' i=if i=k then x else ou i):MAt w0 (w.setCell ⟨K.ou,k,none⟩ (S x)) E K g ou' hi wh∧Only (InM K) w (w.setCell ⟨K.ou,k,none⟩ (S x)):=by
 have ho:Only (InM K) w (w.setCell ⟨K.ou,k,none⟩ (S x)):=Z0v.mono fun i _ e=>.inr (.inl e)
 refine⟨h.change ho ⟨h.tab.st.later Z0v h.ne,(h.tab.ou.set k (S x)).congr fun i _=>?_,h.tab.hi.later Z0v (Ne.symm (h.tab.ou.ne h.tab.hi (by decide))),h.tab.wh.later Z0v (Ne.symm (h.tab.ou.ne h.tab.wh (by decide)))⟩,ho⟩
 rw[hg];by_cases e:i=k
 ·rw[if_pos e,if_pos e]
 ·rw[if_neg e,if_neg e]
theorem MAt.setHi(h:MAt w0 w E K g ou hi wh)(k:Nat)(x:Bool)(hg:∀i,hi' i=if i=k then x else hi i):MAt w0 (w.setCell ⟨K.hi,k,none⟩ (.bool x)) E K g ou hi' wh∧Only (InM K) w (w.setCell ⟨K.hi,k,none⟩ (.bool x)):=by
 have ho:Only (InM K) w (w.setCell ⟨K.hi,k,none⟩ (.bool x)):=Z0v.mono fun i _ e=>.inr (.inr (.inl e))
 refine⟨h.change ho ⟨h.tab.st.later Z0v (h.tab.st.ne h.tab.hi (by decide)),h.tab.ou.later Z0v (h.tab.ou.ne h.tab.hi (by decide)),(h.tab.hi.set k (.bool x)).congr fun i _=>?_,h.tab.wh.later Z0v (Ne.symm (h.tab.hi.ne h.tab.wh (by decide)))⟩,ho⟩
 rw[hg];by_cases e:i=k
 ·rw[if_pos e,if_pos e]
 ·rw[if_neg e,if_neg e]
theorem MAt.setWh(h:MAt w0 w E K g ou hi wh)(k x:Nat)(hg:∀i,wh' i=if i=k then x else wh i):MAt w0 (w.setCell ⟨K.wh,k,none⟩ (IN x)) E K g ou hi wh'∧Only (InM K) w (w.setCell ⟨K.wh,k,none⟩ (IN x)):=by
 have ho:Only (InM K) w (w.setCell ⟨K.wh,k,none⟩ (IN x)):=Z0v.mono fun i _ e=>.inr (.inr (.inr e))
 refine⟨h.change ho ⟨h.tab.st.later Z0v (h.tab.st.ne h.tab.wh (by decide)),h.tab.ou.later Z0v (h.tab.ou.ne h.tab.wh (by decide)),h.tab.hi.later Z0v (h.tab.hi.ne h.tab.wh (by decide)),(h.tab.wh.set k (IN x)).congr fun i _=>?_⟩,ho⟩
 rw[hg];by_cases e:i=k
 ·rw[if_pos e,if_pos e]
 ·rw[if_neg e,if_neg e]
theorem MAt.cell(h:MAt w0 w E K g ou hi wh)(j:Nat):w.cell? ⟨K.b,j,none⟩=(Zge E K)[j]?:=Z00 h.cells j
end
section
variable {w0 w w':World}{E:BE}{K:MK}{s:BS}{o:List Nat}{is:Nat→Bool}
theorem Z73(hI:BInv E s)(i:Nat):mst E s i≤4:=by
 unfold mst;split
 ·exact(hI.rng i ‹_›).2
 ·exact Nat.zero_le _
theorem Zov{i:Nat}(h:mst E s i=1):i∈E.sm∧s.st i=1:=by
 unfold mst at h;split at h
 ·exact⟨‹_›,h⟩
 ·cases h
theorem notReady{i:Nat}(h:mst E s i≠1):Z2a E s i=false:=by
 unfold Z2a;by_cases hi:i∈E.sm
 ·rw[Z1z hi]at h
  cases hr:Z0n E s i with
  | false=>rw[Bool.and_false]
  | true=>exact absurd (Z13.1 hr).1 h
 ·rw[decide_eq_false hi,Bool.false_and]
theorem Z64(h:Z2x w0 w E K s)(hW:Z0w E o is)(hI:BInv E s){i:Nat}(hi:i<E.l.length) :
  Calls Tryz.prog 127 #[PTR K.b,I i] w (RetE (.bool (Z2a E s i)) w):=by
 have c2:=(h.cell 2).trans (rfl:_=some (TabS K.st E.l.length));have t0:=h.tab.st.cell hi;have hl40:=hW.right.1;have hlz:(E.l.length:Int)≤40:=by omega
 have hiz:(i:Int)<(E.l.length:Int):=by omega
 have hi0:(0:Int)≤(i:Int):=by omega
 have hi1:¬(i:Int)<0:=by omega
 have hi2:¬(E.l.length:Int)≤(i:Int):=by omega
 have hb:=Z4j (Z73 hI i);have HL:=Q0 (Z73 hI);by_cases h1:mst E s i=1
 case neg=>
  rw[notReady h1];rw[show (mst E s i==1)=false from Q3 h1]at hb
  generalize Z0d (mst E s i)=sv at t0 hb;clear h hW hI h1;go_enter Tryz.func127,Tryz.ntmps127;go_wp2_with fail;go_ret;exact⟨rfl,Only.refl _ _⟩
 case pos=>
  obtain⟨him,his⟩:=Zov h1;have hre:=Zln hW him his;have hrb:Z2a E s i=Z0n E s i:=by unfold Z2a;rw[decide_eq_true him,Bool.true_and]
  rw[hrb,←hre];rw[h1]at hb t0;rw[show ((1:Nat)==1)=true from rfl]at hb
  have H:=Q0 h;have HRD:=Q0 (h.rd);generalize Z0d 1=sv at t0 hb;obtain⟨R,hR⟩:∃R,R=Z71 E.l (mst E s) E.l.length i:=⟨_,rfl⟩;rw[←hR];have HR:=Q0 hR;have HC1:=Q0 ((h.cell 1).trans (rfl:_=some (Value.slice K.la E.l.length K.lc)));have HC2:=Q0 c2;have HI:=Q0 hi;clear h hW hI h1 his him hre hrb hR hi;go_enter Tryz.func127,Tryz.ntmps127;go_wp2_with fail;clear c2 t0 hb;go_loopw [5] (fun k wr=>∃t:Nat,t≤E.l.length∧k=.int .i64 t∧Hid (Z71 E.l (mst E s) t i=true)∧Hid (Ext w wr)) (fun k _=>E.l.length-(intOf k).toNat)
  case atStart=>exact⟨0,Nat.zero_le _,rfl,Q0 rfl,Q0 (Only.refl _ _)⟩
  case round=>
   obtain⟨t,ht,rfl,HT,HX⟩:=hrel;have d1:=HX.out.cellOf HC1.out (fun h=>h)
   by_cases htl:t<E.l.length
   ·have htz:(t:Int)<(E.l.length:Int):=by omega
    have ht0:(0:Int)≤(t:Int):=by omega
    have ht1:¬(t:Int)<0:=by omega
    have ht2:¬(E.l.length:Int)≤(t:Int):=by omega
    have HNR:=Q0 (Z40 wr _ E.l i t HI.out htl (HRD.out.ext HX.out));have HST:=Q0 (Zi5 E.l (mst E s) t i);have HTL:=Q0 htl;cases hn:Z07 E.l i t with
    | false=>
     have HT2:Hid (Z71 E.l (mst E s) (t+1) i=true):=Q0 (by rw[HST.out,HT.out,hn];rfl)
     rw[hn]at HNR;clear hn htl ht;go_wp2_with fail;refine HNR.out.mono ?_;rintro e w3 ⟨rfl,ho⟩;have HX3:=Q0 (HX.out.then ho);clear ho d1;go_wp2_with fail;go_roundw
     case rel=>exact⟨t+1,HTL.out,by go_num,HT2,HX3⟩
     case measure=>have:=HTL.out;simp[intOf];omega
    | true=>
     have hq:=Zht (HL.out t);have HCT:=Q0 (H.out.tab.st.cell htl);have hrt:Z71 E.l (mst E s) (t+1) i=(mst E s t==2):=by rw[HST.out,HT.out,hn];simp
     rw[hn]at HNR;cases h2:(mst E s t==2)with
     | true=>
      rw[h2]at hq hrt;generalize Z0d (mst E s t)=sq at HCT hq;have HT2:=Q0 hrt;clear hn htl ht hrt h2;go_wp2_with fail;refine HNR.out.mono ?_;rintro e w3 ⟨rfl,ho⟩;have HX3:=Q0 (HX.out.then ho);have e2:=HX3.out.cellOf HC2.out (fun h=>h)
      have e3:=HX3.out.cellOf HCT.out (fun h=>h)
      clear ho d1;go_wp2_with fail;go_roundw
      case rel=>exact⟨t+1,HTL.out,by go_num,HT2,HX3⟩
      case measure=>have:=HTL.out;simp[intOf];omega
     | false=>
      have HRF:Hid (R=false):=Q0 (by
       rw[HR.out,←Bool.not_eq_true];intro hall;unfold Z71 at hall;have:=List.all_eq_true.1 hall t (List.mem_range.2 htl);rw[hn,h2]at this;cases this)
      rw[h2]at hq;generalize Z0d (mst E s t)=sq at HCT hq;clear hn htl ht hrt h2;go_wp2_with fail;refine HNR.out.mono ?_;rintro e w3 ⟨rfl,ho⟩;have HX3:=Q0 (HX.out.then ho);have e2:=HX3.out.cellOf HC2.out (fun h=>h)
      have e3:=HX3.out.cellOf HCT.out (fun h=>h)
      clear ho d1;go_wp2_with fail;go_ret;exact⟨by rw[HRF.out];rfl,HX3.out⟩
   ·have htz:¬(t:Int)<(E.l.length:Int):=by omega
    have HRT:Hid (R=true):=Q0 (by rw[HR.out];rw[show E.l.length=t by omega];exact HT.out)
    clear htl ht;go_wp2_with fail;go_ret;exact⟨by rw[HRT.out];rfl,HX.out⟩
theorem Zi6(h:Z2x w0 w E K s)(hW:Z0w E o is)(hI:BInv E s) :
  Calls Tryz.prog 133 #[PTR K.b] w (RetNs (Z37 E s) w):=by
 rw[←Zfs hW];have hl40:=hW.right.1;have hlz:(E.l.length:Int)≤40:=by omega
 have HC1:=Q0 ((h.cell 1).trans (rfl:_=some (Value.slice K.la E.l.length K.lc)));have HIR:=Q0 (fun(i:Nat) (hi:i<E.l.length) (w1:World) (hx:Ext w w1)=>Z64 (h.grow hx) hW hI hi)
 obtain⟨ws,hws⟩:∃ws,ws=w.heap.size:=⟨_,rfl⟩;have HWS:=Q0 hws;clear h hW hI hws;go_enter Tryz.func133,Tryz.ntmps133;go_wp2_with fail;go_loopw [3,4,5] (fun q i _ wr=>∃(t:Nat)(qv:Value),qv=q∧t≤E.l.length∧i=.int .i64 t∧Hid (RowI ws wr qv ((List.range t).filter (Z2a E s)))∧Hid (Ext w wr)) (fun _ i _ _=>E.l.length-(intOf i).toNat)
 case atStart=>exact⟨0,_,rfl,Nat.zero_le _,rfl,Q0 (RowI.nil _ _),Q0 (Only.refl _ _)⟩
 case round=>
  obtain⟨t,qv,rfl,ht,rfl,HR,HX⟩:=hrel;have d1:=HX.out.cellOf HC1.out (fun h=>h)
  by_cases htl:t<E.l.length
  ·have htz:(t:Int)<(E.l.length:Int):=by omega
   have HCL:=Q0 (HIR.out t htl wr HX.out);have HST:=Q0 (Zgx (p:=Z2a E s) t);have HTL:=Q0 htl;have hfl:((List.range t).filter (Z2a E s)).length≤1000000:=by
    have:=List.length_filter_le (Z2a E s) (List.range t)
    rw[List.length_range]at this;omega
   have HFL:=Q0 hfl;have HSZ:Hid (ws≤wr.heap.size):=Q0 (by rw[HWS.out];exact HX.out.size)
   clear hfl htl ht;cases hn:Z2a E s t with
   | false=>
    rw[hn]at HCL HST;rw[if_neg (by simp),List.append_nil]at HST
    clear hn;go_wp2_with fail;refine HCL.out.mono ?_;rintro e w3 ⟨rfl,ho⟩;have HX3:=Q0 (HX.out.then ho);have HR3:=Q0 (HR.out.ext ho);clear ho d1;go_wp2_with fail;go_roundw
    case rel=>exact⟨t+1,_,rfl,HTL.out,by go_num,by rw[HST.out];exact HR3,HX3⟩
    case measure=>have:=HTL.out;simp[intOf];omega
   | true=>
    rw[hn]at HCL HST;rw[if_pos rfl]at HST;generalize (List.range t).filter (Z2a E s)=q at HR HST HFL;clear hn;go_wp2_with fail;refine HCL.out.mono ?_;rintro e w3 ⟨rfl,ho⟩;have HX3:=Q0 (HX.out.then ho);have HR3:=Q0 (HR.out.ext ho);have HSZ3:Hid (ws≤w3.heap.size):=Q0 (Nat.le_trans HSZ.out ho.size);clear ho d1;go_wp2_with (at_builtin;refine Zl7 rfl (.tmp 19) (.tmp 21) w ws _ q t w3 rfl rfl rfl rfl HR3.out HFL.out HSZ3.out HX3.out (by rw[HWS.out];exact Nat.le_refl _) ?_;intro g5 cap5 w5 HR5 HX5 _)
    go_roundw
    case rel=>exact⟨t+1,_,rfl,HTL.out,by go_num,by rw[HST.out];exact HR5,HX5⟩
    case measure=>have:=HTL.out;simp[intOf];omega
  ·have htz:¬(t:Int)<(E.l.length:Int):=by omega
   have hte:t=E.l.length:=by omega
   rw[hte]at HR;rw[HWS.out]at HR;clear htl ht hte;go_wp2_with fail;go_ret;exact⟨_,rfl,HR.out,HX.out⟩
end
end Go.Proofs.YtnmhaipjfpongacGreatDoor
