/- A part of this claim's proof;each theorem bears its own conditions. -/
import Derived.Test.YtnmhaipjfpongacGreatDoorPR7
set_option maxRecDepth 100000
set_option maxHeartbeats 4000000
namespace Go.Proofs.YtnmhaipjfpongacGreatDoor
open Go.ChangeShapes Go.WideShapes Go.ChangeAt Go.RowKit
theorem ins_at{L:FL}{p x:B}{j:Nat}(hb:∀i q,i<j→L[i]?=some q→q.1<p)(he:∀q,L[j]?=some q→¬q.1<p):insT L p x=L.take j++[(p,x)]++L.drop j:=by
 induction L generalizing j with
 | nil=>simp[insT]
 | cons q L ih=>
  cases j with
  | zero=>
   have:=he q rfl
   unfold insT;rw[List.takeWhile_cons_of_neg (by simpa using this),List.dropWhile_cons_of_neg (by simpa using this)]
   rfl
  | succ j=>
   have h0:=hb 0 q (Nat.succ_pos _) rfl;have:=ih (j:=j) (fun i r hi hr=>hb (i+1) r (by omega) (by simpa using hr)) (fun r hr=>he r (by simpa using hr))
   unfold insT at this ⊢;rw[List.takeWhile_cons_of_pos (by simpa using h0),List.dropWhile_cons_of_pos (by simpa using h0),List.cons_append,this]
   rfl
theorem Zio{L:FL}{p x y:B}{j:Nat}(hn:(L.map (·.1)).Nodup)(h:L[j]?=some (p,y)):L.map (chg p x)=L.set j (p,x):=by
 apply List.ext_getElem?
 intro i
 rw[List.getElem?_map,List.getElem?_set];by_cases hij:j=i
 ·subst hij
  have hj:=(Q2 h).1;rw[h,if_pos rfl,if_pos hj];simp[chg]
 ·rw[if_neg hij]
  cases hq:L[i]? with
  | none=>rfl
  | some q=>
   have hne:q.1≠p:=by
    intro e
    have h1:(L.map (·.1))[i]?=some p:=by rw[List.getElem?_map,hq];simp[e]
    have h2:(L.map (·.1))[j]?=some p:=by rw[List.getElem?_map,h];rfl
    have hi:=(Q2 h1).1;have hj:=(Q2 h2).1;have e1:(L.map (·.1))[i]=(L.map (·.1))[j]:=(Q2 h1).2.trans (Q2 h2).2.symm;have hpw:=List.pairwise_iff_getElem.1 hn;rcases Nat.lt_or_gt_of_ne hij with hlt|hlt
    ·exact hpw j i hj hi hlt e1.symm
    ·exact hpw i j hi hj hlt e1
   simp[chg,hne]
theorem Zkm{p x:B}:∀(L:FL)(j:Nat),j<L.length→(L.set j (p,x)).flatMap encF=((L.flatMap encF).set (j*2) (S p)).set (j*2+1) (S x)
 | [],j,h=>by simp at h
 | q :: L,0,_=>by simp[encF]
 | q :: L,j+1,h=>by
  have:=Zkm (p:=p) (x:=x) L j (by simpa using h)
  rw[List.set_cons_succ,List.flatMap_cons,this,List.flatMap_cons];simp only[encF,List.cons_append,List.nil_append];rw[show (j+1)*2=j*2+1+1 by omega]
  simp only[List.set_cons_succ]
theorem row_free{w:World}{base b off n cap:Nat}{e:TypeId}{xs:List Value}(h:w.ownsRow base e 2 (.slice (some ⟨b,off,none⟩) n cap) n xs):off=0∧∀j,w.frozen? ⟨b,j,none⟩=false:=by
 rcases h.2 with⟨h0,_⟩|⟨g,cap',cur,hv,_,hh,_⟩
 ·cases h0
 ·cases hv
  exact⟨rfl,fun j=>Z02 hh j⟩
theorem Zjt{α:Type}{enc:α→List Value}{W:World}{base n:Nat}{e:TypeId}{v:Value}{l:List α}{k:α}(h:W.ownsRow base e n v (l.length+1) ((l++[k]).flatMap enc)):W.ownsRow base e n v (l++[k]).length ((l++[k]).flatMap enc):=by
 rw[List.length_append];exact h
theorem Z36.insd{w w1 w3:World}{base m:Nat}{slv v:Value}{L A C T:FL}{q:B×B}{r:Value}(h:Z20 w base m slv L)(hx:Ext w w1)(hx3:Ext w1 w3)(hT:T=A++[q]++C)(hr:w3.ownsRow base 65 2 v (A++[q]++C).length ((A++[q]++C).flatMap encF))
  (hn:∀i,v.ownBlock=some i→w1.heap.size≤i):Z36 w base m slv T r (.returned r) (w3.setCell ⟨m,0,none⟩ v):=by
 rw[←hT]at hr;exact Z36.laid h (hx.then hx3) hr fun i e=>Nat.le_trans hx.size (hn i e)
theorem row_none{w:World}{base n cap size:Nat}{e:TypeId}{xs:List Value}(h:w.ownsRow base e size (.slice none n cap) n xs):n=0∧cap=0:=by
 rcases h.2 with⟨h0,h1⟩|⟨g,cap',cur,hv,_,hh,_⟩
 ·cases h0;exact⟨rfl,rfl⟩
 ·cases hv
theorem row_some{w:World}{base n cap size:Nat}{e:TypeId}{xs:List Value}{ad:Addr}(h:w.ownsRow base e size (.slice (some ad) n cap) n xs):∃b off,ad=⟨b,off,none⟩:=by
 rcases h.2 with⟨h0,_⟩|⟨g,cap',cur,hv,_,hh,_⟩
 ·cases h0
 ·cases hv;exact⟨_,_,rfl⟩
theorem rd_cells{w:World}{L:FL}{b off:Nat}(h:L≠[]→∃b' off',some (⟨b,off,none⟩:Addr)=some ⟨b',off',none⟩∧∀i x,L[i]?=some x→∀j u,(encF x)[j]?=some u→w.cell? ⟨b',off'+i*2+j,none⟩=some u) :
  ∀i x,L[i]?=some x→∀j u,(encF x)[j]?=some u→w.cell? ⟨b,off+i*2+j,none⟩=some u:=by
 intro i x hx
 obtain⟨b',off',e,hc⟩:=h (by rintro rfl;simp at hx)
 cases e;exact hc i x hx
theorem Z36.stored{w w1:World}{base m b cap j:Nat}{slv:Value}{L:FL}{p x:B}{r:Value}(_:Z20 w base m slv L)(hv:slv=.slice (some ⟨b,0,none⟩) L.length cap)(h1:Z20 w1 base m (.slice (some ⟨b,0,none⟩) L.length cap) L)(hx:Ext w w1)(hj:j<L.length) :
  Z36 w base m slv (L.set j (p,x)) r (.returned r) ((w1.setCell ⟨b,j*2,none⟩ (S p)).setCell ⟨b,j*2+1,none⟩ (S x)):=by
 have hne:=h1.ne b rfl;have r1:=(h1.row.stored (j*2) (S p)).1;have r2:=(r1.stored (j*2+1) (S x)).1;rw[←Zkm L j hj]at r2;have o1:=Only.set (p:=fun i=>i=b) (w:=w1) (a:=⟨b,j*2,none⟩) (S p) rfl
 have o2:=o1.thenSet (x:=⟨b,j*2+1,none⟩) (S x) (.inl rfl);refine⟨slv,rfl,⟨o2.heapOf (by rw[hv];exact h1.cells) (fun e=>hne e.symm),?_⟩,Only.after hx (o2.mono fun i _ e=>.inr (by rw[hv,e];rfl)),fun _ h=>.inl h⟩
 rw[hv,List.length_set];exact r2
theorem Zo9(w:World)(base m:Nat)(slv:Value)(L:FL)(p x:B)(h:Z20 w base m slv L)(hl:L.length≤1000)(hp:p.length≤999999)(hk:Z0y p=true)(hx:¬2000<x.length)(hc:clash L p=false)(hlk:L.lookup p=none)(hf:60≤L.length) :
  Calls Tryz.prog 30 #[.pointer (some ⟨m,0,none⟩),S p,S x] w (Z36 w base m slv (putT L p x) (I (Z06 L p x))):=by
 have HC:=Z3e w p hp;rw[hk]at HC;have HC:=Q0 HC;obtain⟨a,cap,hv,hcap,_,hcell⟩:=h.rd;have HV:=Q0 hv;have HCE:=Q0 hcell;have hcode:Z06 L p x=8:=by unfold Z06;rw[hk,if_pos rfl,if_neg hx,hc,if_neg (by decide),hlk,if_pos (by simp[hf])]
 have hT:putT L p x=L:=by unfold putT;rw[hcode,if_neg (by decide)]
 rw[hcode,hT];have hfz:(60:Int)≤(L.length:Int):=by omega
 have hfind:=fun W (hW:Ext w W)=>Z4a W m slv L p (h.ext hW).cells (h.ext hW).rd (by omega)
 rcases Z3m (L:=L) (k:=p)with⟨h1,h2⟩|⟨j0,y0,h1,h2,h3⟩
 rotate_left
 ·rw[hlk]at h3;cases h3
 rw[h1]at hfind;have HF:=Q0 hfind;have H:=Q0 h;have HCL:=Q0 (fun(j:Nat) (q:B×B) (hq:L[j]?=some q)=>Z7l hc hq)
 have hz:¬(2000:Int)<(x.length:Int):=by omega
 clear h hp hk hcode hT hx hc hcell hv hlk hf hfind h1 h2;go_enter Tryz.func30,Tryz.ntmps30;go_wp2_with (go_at_call 104;refine HC.out.mono ?_;rintro e w1 ⟨rfl,ho⟩;have HO:=Q0 ho;clear ho);have c1:w1.cell? ⟨m,0,none⟩=some (.slice a L.length cap):=by
  rw[←HV.out];exact(Z00 (HO.out.heapOf H.out.cells (fun h=>h)) 0).trans rfl
 go_loop [8] (fun i=>∃j:Nat,j≤L.length∧i=.int .i64 j) (fun i=>L.length-(intOf i).toNat)
 case atStart=>exact⟨0,Nat.zero_le _,rfl⟩
 case round=>
  obtain⟨j,hj,rfl⟩:=hrel;by_cases hlt:j<L.length
  ·have hltz:(j:Int)<(L.length:Int):=by omega
   obtain⟨b,off,rfl,hcl⟩:=HCE.out (by intro h;rw[h]at hlt;simp at hlt)
   obtain⟨⟨k',y⟩,hq⟩:∃y,L[j]?=some y:=⟨_,Q1 hlt⟩;have d0:w1.cell? ⟨b,off+j*2,none⟩=some (S k'):=HO.out.cellOf (hcl j _ hq 0 _ rfl) (fun h=>h)
   have HN:=HCL.out j _ hq;have ha1:=fun W=>Z1t W p k'
   have ha2:=fun W=>Z1t W k' p
   rw[HN.1]at ha1;rw[HN.2]at ha2;have HA1:=Q0 ha1;have HA2:=Q0 ha2;clear hcl hq HN ha1 ha2;go_wp2_with fail;refine(HA1.out _).mono ?_;rintro e w2 ⟨rfl,rfl⟩;go_wp2_with fail;refine(HA2.out _).mono ?_;rintro e w2 ⟨rfl,rfl⟩;go_wp2_with fail;go_round
   case rel=>exact⟨j+1,by omega,by go_num⟩
   case measure=>simp[intOf];omega
  ·have hltz:¬(j:Int)<(L.length:Int):=by omega
   go_wp2_with fail;refine(HF.out _ HO.out).mono ?_
   rintro e w2 ⟨rfl,rfl⟩;go_wp2_with fail;go_ret;exact Z36.same H.out HO.out
theorem putM_old(w:World)(base m:Nat)(slv:Value)(L:FL)(p x:B)(h:Z20 w base m slv L)(hr:Rising L)(hl:L.length≤1000)(hp:p.length≤999999)(hk:Z0y p=true)(hx:¬2000<x.length)(hc:clash L p=false)(y:B)(hlk:L.lookup p=some y) :
  Calls Tryz.prog 30 #[.pointer (some ⟨m,0,none⟩),S p,S x] w (Z36 w base m slv (putT L p x) (I (Z06 L p x))):=by
 have HC:=Z3e w p hp;rw[hk]at HC;have HC:=Q0 HC;obtain⟨a,cap,hv,hcap,_,hcell⟩:=h.rd;have HV:=Q0 hv;have HCE:=Q0 hcell;have hcode:Z06 L p x=0:=by unfold Z06;rw[hk,if_pos rfl,if_neg hx,hc,if_neg (by decide),hlk,if_neg (by simp)]
 have hfind:=fun W (hW:Ext w W)=>Z4a W m slv L p (h.ext hW).cells (h.ext hW).rd (by omega)
 rcases Z3m (L:=L) (k:=p)with⟨h1,h2⟩|⟨j0,y0,h1,h2,h3⟩
 ·rw[hlk]at h2;cases h2
 rw[h1]at hfind;have hj0:=(Q2 h2).1;have hT:putT L p x=L.set j0 (p,x):=by unfold putT setT;rw[hcode,if_pos rfl,hlk,if_pos (by simp),Zio hr.nodup h2]
 rw[hcode,hT];have hjz:(j0:Int)<(L.length:Int):=by omega
 have hjn:¬(j0:Int)<0:=by omega
 have HJ0:=Q0 h2;have HF:=Q0 hfind;have H:=Q0 h;have HCL:=Q0 (fun(j:Nat) (q:B×B) (hq:L[j]?=some q)=>Z7l hc hq)
 have hz:¬(2000:Int)<(x.length:Int):=by omega
 clear hr hp hk hcode hT hx hc hcell hv hlk hfind h1 h2 h3 h;go_enter Tryz.func30,Tryz.ntmps30;go_wp2_with (go_at_call 104;refine HC.out.mono ?_;rintro e w1 ⟨rfl,ho⟩;have HO:=Q0 ho;clear ho);have c1:w1.cell? ⟨m,0,none⟩=some (.slice a L.length cap):=by
  rw[←HV.out];exact(Z00 (HO.out.heapOf H.out.cells (fun h=>h)) 0).trans rfl
 go_loop [8] (fun i=>∃j:Nat,j≤L.length∧i=.int .i64 j) (fun i=>L.length-(intOf i).toNat)
 case atStart=>exact⟨0,Nat.zero_le _,rfl⟩
 case round=>
  obtain⟨j,hj,rfl⟩:=hrel;by_cases hlt:j<L.length
  ·have hltz:(j:Int)<(L.length:Int):=by omega
   obtain⟨b,off,rfl,hcl⟩:=HCE.out (by intro h;rw[h]at hlt;simp at hlt)
   obtain⟨⟨k',y⟩,hq⟩:∃y,L[j]?=some y:=⟨_,Q1 hlt⟩;have d0:w1.cell? ⟨b,off+j*2,none⟩=some (S k'):=HO.out.cellOf (hcl j _ hq 0 _ rfl) (fun h=>h)
   have HN:=HCL.out j _ hq;have ha1:=fun W=>Z1t W p k'
   have ha2:=fun W=>Z1t W k' p
   rw[HN.1]at ha1;rw[HN.2]at ha2;have HA1:=Q0 ha1;have HA2:=Q0 ha2;clear hcl hq HN ha1 ha2;go_wp2_with fail;refine(HA1.out _).mono ?_;rintro e w2 ⟨rfl,rfl⟩;go_wp2_with fail;refine(HA2.out _).mono ?_;rintro e w2 ⟨rfl,rfl⟩;go_wp2_with fail;go_round
   case rel=>exact⟨j+1,by omega,by go_num⟩
   case measure=>simp[intOf];omega
  ·have hltz:¬(j:Int)<(L.length:Int):=by omega
   go_wp2_with fail;refine(HF.out _ HO.out).mono ?_
   rintro e w2 ⟨rfl,rfl⟩;obtain⟨b,off,rfl,hcl⟩:=HCE.out (by rintro rfl;simp at hj0)
   have hH1:=H.out.ext HO.out;rw[HV.out]at hH1;obtain⟨rfl,hfr⟩:=row_free hH1.row;have e0:=HO.out.cellOf (hcl j0 _ HJ0.out 0 _ rfl) (fun h=>h)
   have e1:=HO.out.cellOf (hcl j0 _ HJ0.out 1 _ rfl) (fun h=>h)
   simp only[Nat.zero_add,Nat.add_zero]at e0 e1;have HH1:=Q0 hH1;have f0:=hfr (j0*2);have f1:=hfr (j0*2+1);clear hcl hH1 hfr;go_wp2_with fail;go_ret;exact Z36.stored H.out HV.out HH1.out HO.out hj0
theorem putM_new(w:World)(base m:Nat)(slv:Value)(L:FL)(p x:B)(h:Z20 w base m slv L)(hl:L.length≤1000)(hp:p.length≤999999)(hk:Z0y p=true)(hx:¬2000<x.length)(hc:clash L p=false)(hlk:L.lookup p=none)(hf:¬60≤L.length)(hb:base≤w.heap.size) :
  Calls Tryz.prog 30 #[.pointer (some ⟨m,0,none⟩),S p,S x] w (Z36 w base m slv (putT L p x) (I (Z06 L p x))):=by
 have HC:=Z3e w p hp;rw[hk]at HC;have HC:=Q0 HC;obtain⟨a,cap,hv,hcap,_,hcell⟩:=h.rd;have HV:=Q0 hv;have HCE:=Q0 hcell;have hcode:Z06 L p x=0:=by unfold Z06;rw[hk,if_pos rfl,if_neg hx,hc,if_neg (by decide),hlk,if_neg (by simp[hf])]
 have hfz:¬(60:Int)≤(L.length:Int):=by omega
 have hfind:=fun W (hW:Ext w W)=>Z4a W m slv L p (h.ext hW).cells (h.ext hW).rd (by omega)
 rcases Z3m (L:=L) (k:=p)with⟨h1,h2⟩|⟨j0,y0,h1,h2,h3⟩
 rotate_left
 ·rw[hlk]at h3;cases h3
 rw[h1]at hfind;have hT0:putT L p x=insT L p x:=by unfold putT setT;rw[hcode,if_pos rfl,hlk,if_neg (by simp)]
 obtain⟨T,HT⟩:∃T,Hid (T=insT L p x):=⟨_,Q0 rfl⟩;rw[hcode,hT0,←HT.out];have HF:=Q0 hfind;have HBS:=Q0 hb;have H:=Q0 h;have HCL:=Q0 (fun(j:Nat) (q:B×B) (hq:L[j]?=some q)=>Z7l hc hq)
 have hz:¬(2000:Int)<(x.length:Int):=by omega
 clear h hp hk hcode hT0 hx hc hcell hv hlk hf hfind h1 h2 hb;go_enter Tryz.func30,Tryz.ntmps30;go_wp2_with (go_at_call 104;refine HC.out.mono ?_;rintro e w1 ⟨rfl,ho⟩;have HO:=Q0 ho;clear ho);have c1:w1.cell? ⟨m,0,none⟩=some (.slice a L.length cap):=by
  rw[←HV.out];exact(Z00 (HO.out.heapOf H.out.cells (fun h=>h)) 0).trans rfl
 go_loop [8] (fun i=>∃j:Nat,j≤L.length∧i=.int .i64 j) (fun i=>L.length-(intOf i).toNat)
 case atStart=>exact⟨0,Nat.zero_le _,rfl⟩
 case round=>
  obtain⟨j,hj,rfl⟩:=hrel;by_cases hlt:j<L.length
  ·have hltz:(j:Int)<(L.length:Int):=by omega
   obtain⟨b,off,rfl,hcl⟩:=HCE.out (by intro h;rw[h]at hlt;simp at hlt)
   obtain⟨⟨k',y⟩,hq⟩:∃y,L[j]?=some y:=⟨_,Q1 hlt⟩;have d0:w1.cell? ⟨b,off+j*2,none⟩=some (S k'):=HO.out.cellOf (hcl j _ hq 0 _ rfl) (fun h=>h)
   have HN:=HCL.out j _ hq;have ha1:=fun W=>Z1t W p k'
   have ha2:=fun W=>Z1t W k' p
   rw[HN.1]at ha1;rw[HN.2]at ha2;have HA1:=Q0 ha1;have HA2:=Q0 ha2;clear hcl hq HN ha1 ha2;go_wp2_with fail;refine(HA1.out _).mono ?_;rintro e w2 ⟨rfl,rfl⟩;go_wp2_with fail;refine(HA2.out _).mono ?_;rintro e w2 ⟨rfl,rfl⟩;go_wp2_with fail;go_round
   case rel=>exact⟨j+1,by omega,by go_num⟩
   case measure=>simp[intOf];omega
  ·have hltz:¬(j:Int)<(L.length:Int):=by omega
   go_wp2_with fail;refine(HF.out _ HO.out).mono ?_
   rintro e w2 ⟨rfl,rfl⟩;go_wp2_with fail;go_loop [9] (fun i=>∃j:Nat,j≤L.length∧i=.int .i64 j∧Hid (∀i q,i<j→L[i]?=some q→q.1<p)) (fun i=>L.length-(intOf i).toNat)
   case atStart=>exact⟨0,Nat.zero_le _,rfl,Q0 (fun i q h=>absurd h (Nat.not_lt_zero _))⟩
   case round=>
    obtain⟨j,hj,rfl,hB⟩:=hrel;by_cases hlt:j<L.length
    ·have hltz:(j:Int)<(L.length:Int):=by omega
     obtain⟨b,off,rfl,hcl⟩:=HCE.out (by intro h;rw[h]at hlt;simp at hlt)
     obtain⟨⟨k',y⟩,hq⟩:∃y,L[j]?=some y:=⟨_,Q1 hlt⟩;have d0:w1.cell? ⟨b,off+j*2,none⟩=some (S k'):=HO.out.cellOf (hcl j _ hq 0 _ rfl) (fun h=>h)
     have HQ:=Q0 hq;have HCB:=Q0 hcl;have hbl:=bytesLess_eq k' p;clear hcl hq;by_cases hkp:k'<p
     ·have HKP:=Q0 hkp
      rw[decide_eq_true hkp]at hbl;clear hkp;go_wp2_with fail;go_round
      case rel=>exact⟨j+1,by omega,by go_num,Q0 (fun i q hi hq=>by
       rcases Nat.lt_succ_iff_lt_or_eq.1 hi with h|rfl
       ·exact hB.out i q h hq
       ·rw[HQ.out]at hq;cases hq;exact HKP.out)⟩
      case measure=>simp[intOf];omega
     ·rw[decide_eq_false hkp]at hbl
      have HINS:=Q0 (ins_at (x:=x) hB.out (fun q hq=>by rw[HQ.out]at hq;cases hq;exact hkp))
      clear hkp;have hjc:(j:Int)≤(cap:Int):=by omega
      have hjl:(j:Int)≤(L.length:Int):=by omega
      have hlt1:(L.take j).length=j:=by rw[List.length_take];omega
      have hld:(L.drop j).length=L.length-j:=List.length_drop ..
      have HM1:=Q0 (HO.out.heapOf H.out.cells (fun h=>h))
      go_wp2_with (first|(at_builtin;refine Z1n encF 22 65 2 32 _ Z2h Tryz.underlying22 rfl (by decide) Z1k Z2i (by decide) _ _ base (.slice none 0 0) [] (L.take j) w1 rfl rfl rfl _ _ _ rfl hlt1.symm (.inr ⟨_,rfl,Zdh HCB.out HO.out j⟩) (World.ownsRow_nil _ _ _ _) (by simp;omega) (Nat.le_trans HBS.out HO.out.size) ?_;intro a1 m1 cp1 w3 hm1 hr1 hg1 ha1;have hx1:Ext w1 w3:=(Only.of_grown hg1).mono (fun _ _ h=>by cases h);have c2:w3.cell? ⟨m,0,none⟩=some (.slice (some ⟨b,off,none⟩) L.length cap):=hx1.cellOf c1 (fun h=>h);have HR1:Hid (w3.ownsRow base 65 2 (.slice a1 m1 cp1) (L.take j).length ((L.take j).flatMap encF)):=Q0 hr1;have HX1:=Q0 hx1;have HA1:=Q0 ha1;clear hr1 hg1 ha1 hm1 hx1)|(at_builtin;refine Z14 encF 22 65 2 32 _ Z2h Tryz.underlying22 rfl (by decide) Z1k Z2i (by decide) _ _ base (.slice a1 m1 cp1) (L.take j) (p,x) w3 _ rfl rfl rfl rfl rfl HR1.out (by simp;omega) (Nat.le_trans HBS.out (Nat.le_trans HO.out.size HX1.out.size)) ?_;intro g5 cap5 w5 ho5 hg5 ha5;have hx5:Ext w1 w5:=HX1.out.trans (Only.of_grown hg5) (fun _ _ h=>h) (fun i hi h=>by rcases HA1.out i h with h|h;cases h;omega);have c5:w5.cell? ⟨m,0,none⟩=some (.slice (some ⟨b,off,none⟩) L.length cap):=hx5.cellOf c1 (fun h=>h);have HX3:=Q0 hx5;have ho6:=Zjt ho5;have e6:(L.take j).length+1=j+1:=(by rw[hlt1]);rw[e6]at ho6;have HO5:=Q0 ho6;clear ho6;have HA5:=Q0 ha5;clear ho5 hg5 ha5 hx5)|(at_builtin;refine Z1n encF 22 65 2 32 _ Z2h Tryz.underlying22 rfl (by decide) Z1k Z2i (by decide) _ _ base (.slice (some ⟨g5,0,none⟩) (j+1) cap5) (L.take j++[(p,x)]) (L.drop j) w5 rfl rfl rfl _ _ _ rfl hld.symm (.inr ⟨_,rfl,Zeq HCB.out (HO.out.trans HX3.out (fun _ _ h=>h) (fun _ _ h=>h)) j⟩) HO5.out (by simp;omega) (Nat.le_trans HBS.out (Nat.le_trans HO.out.size HX3.out.size)) ?_;intro a7 m7 cp7 w7 hm7 hr7 hg7 ha7;have hx7:Ext w1 w7:=HX3.out.trans (Only.of_grown hg7) (fun _ _ h=>h) (fun i hi h=>by rcases HA5.out i h with h|h;(rcases HA1.out i h with h|h;cases h;omega);(have:=HX1.out.size;omega));have HR7:=Q0 hr7;have HX7:=Q0 hx7;have HA7:=Q0 ha7;have hf7:=Z02 (hx7.heapOf HM1.out (fun h=>h)) 0;have c7:=(Z00 (hx7.heapOf HM1.out (fun h=>h)) 0).trans rfl;clear hr7 hg7 ha7 hm7 hx7)|(at_builtin;generalize hAO:(if cap=j then some (⟨b,off,none⟩:Addr)else some ⟨b,off+j*2,none⟩)=ao;refine Z1n encF 22 65 2 32 _ Z2h Tryz.underlying22 rfl (by decide) Z1k Z2i (by decide) _ _ base (.slice (some ⟨g5,0,none⟩) (j+1) cap5) (L.take j++[(p,x)]) (L.drop j) w5 rfl rfl rfl _ _ _ rfl hld.symm (Zjc HCB.out (HO.out.trans HX3.out (fun _ _ h=>h) (fun _ _ h=>h)) hcap hAO) HO5.out (by simp;omega) (Nat.le_trans HBS.out (Nat.le_trans HO.out.size HX3.out.size)) ?_;intro a7 m7 cp7 w7 hm7 hr7 hg7 ha7;have hx7:Ext w1 w7:=HX3.out.trans (Only.of_grown hg7) (fun _ _ h=>h) (fun i hi h=>by rcases HA5.out i h with h|h;(rcases HA1.out i h with h|h;cases h;omega);(have:=HX1.out.size;omega));have HR7:=Q0 hr7;have HX7:=Q0 hx7;have HA7:=Q0 ha7;have hf7:=Z02 (hx7.heapOf HM1.out (fun h=>h)) 0;have c7:=(Z00 (hx7.heapOf HM1.out (fun h=>h)) 0).trans rfl;clear hr7 hg7 ha7 hm7 hx7 hAO))
      go_ret;exact Z36.insd H.out HO.out HX7.out (HT.out.trans HINS.out) HR7.out fun i e=>by
       rcases HA7.out i e with h|h
       ·rcases HA5.out i h with h|h
        ·rcases HA1.out i h with h|h
         ·cases h
         ·exact h
        ·exact Nat.le_trans HX1.out.size h
       ·exact Nat.le_trans HX3.out.size h
    ·have hltz:¬(j:Int)<(L.length:Int):=by omega
     have hj':j=L.length:=by omega
     have HINS:=Q0 (ins_at (x:=x) hB.out (fun q hq=>by have:=(Q2 hq).1;omega))
     cases a with
     | none=>
      have hrow:=H.out.row;rw[HV.out]at hrow;obtain⟨hL0,rfl⟩:=row_none hrow;obtain rfl:L=[]:=List.length_eq_zero_iff.1 hL0;obtain rfl:j=0:=hj';have HM1:=Q0 (HO.out.heapOf H.out.cells (fun h=>h))
      clear hrow hL0;go_wp2_with (first|(at_builtin;refine Z14 encF 22 65 2 32 _ Z2h Tryz.underlying22 rfl (by decide) Z1k Z2i (by decide) _ _ base (.slice none 0 0) ([]:FL) (p,x) w1 _ rfl rfl rfl rfl rfl (World.ownsRow_nil _ _ _ _) (by simp) (Nat.le_trans HBS.out HO.out.size) ?_;intro g5 cap5 w5 ho5 hg5 ha5;have hx5:Ext w1 w5:=(Only.of_grown hg5).mono (fun _ _ h=>by cases h);have c5:w5.cell? ⟨m,0,none⟩=some (.slice none 0 0):=hx5.cellOf c1 (fun h=>h);have HX3:=Q0 hx5;have HO5:Hid (w5.ownsRow base 65 2 (.slice (some ⟨g5,0,none⟩) 1 cap5) ([(p,x)]:FL).length (([(p,x)]:FL).flatMap encF)):=Q0 ho5;have HA5:=Q0 ha5;clear ho5 hg5 ha5 hx5)|(at_builtin;refine Z1n encF 22 65 2 32 _ Z2h Tryz.underlying22 rfl (by decide) Z1k Z2i (by decide) _ _ base (.slice (some ⟨g5,0,none⟩) 1 cap5) ([(p,x)]:FL) ([]:FL) w5 rfl rfl rfl _ _ _ rfl rfl (.inl ⟨rfl,rfl,rfl⟩) HO5.out (by simp) (Nat.le_trans HBS.out (Nat.le_trans HO.out.size HX3.out.size)) ?_;intro a7 m7 cp7 w7 hm7 hr7 hg7 ha7;have hx7:Ext w1 w7:=HX3.out.trans (Only.of_grown hg7) (fun _ _ h=>h) (fun i hi h=>by rcases HA5.out i h with h|h;cases h;omega);have HR7:=Q0 hr7;have HX7:=Q0 hx7;have HA7:=Q0 ha7;have hf7:=Z02 (hx7.heapOf HM1.out (fun h=>h)) 0;have c7:=(Z00 (hx7.heapOf HM1.out (fun h=>h)) 0).trans rfl;clear hr7 hg7 ha7 hm7 hx7))
      go_ret;exact Z36.insd (A:=[]) (C:=[]) H.out HO.out HX7.out (HT.out.trans HINS.out) HR7.out fun i e=>by
       rcases HA7.out i e with h|h
       ·rcases HA5.out i h with h|h
        ·cases h
        ·exact h
       ·exact Nat.le_trans HX3.out.size h
     | some ad=>
      have hrow:=H.out.row;rw[HV.out]at hrow;obtain⟨b,off,rfl⟩:=row_some hrow;have HCB:=Q0 (rd_cells (L:=L) HCE.out);clear hrow hj';have hjc:(j:Int)≤(cap:Int):=by omega
      have hjl:(j:Int)≤(L.length:Int):=by omega
      have hlt1:(L.take j).length=j:=by rw[List.length_take];omega
      have hld:(L.drop j).length=L.length-j:=List.length_drop ..
      have HM1:=Q0 (HO.out.heapOf H.out.cells (fun h=>h))
      go_wp2_with (first|(at_builtin;refine Z1n encF 22 65 2 32 _ Z2h Tryz.underlying22 rfl (by decide) Z1k Z2i (by decide) _ _ base (.slice none 0 0) [] (L.take j) w1 rfl rfl rfl _ _ _ rfl hlt1.symm (.inr ⟨_,rfl,Zdh HCB.out HO.out j⟩) (World.ownsRow_nil _ _ _ _) (by simp;omega) (Nat.le_trans HBS.out HO.out.size) ?_;intro a1 m1 cp1 w3 hm1 hr1 hg1 ha1;have hx1:Ext w1 w3:=(Only.of_grown hg1).mono (fun _ _ h=>by cases h);have c2:w3.cell? ⟨m,0,none⟩=some (.slice (some ⟨b,off,none⟩) L.length cap):=hx1.cellOf c1 (fun h=>h);have HR1:Hid (w3.ownsRow base 65 2 (.slice a1 m1 cp1) (L.take j).length ((L.take j).flatMap encF)):=Q0 hr1;have HX1:=Q0 hx1;have HA1:=Q0 ha1;clear hr1 hg1 ha1 hm1 hx1)|(at_builtin;refine Z14 encF 22 65 2 32 _ Z2h Tryz.underlying22 rfl (by decide) Z1k Z2i (by decide) _ _ base (.slice a1 m1 cp1) (L.take j) (p,x) w3 _ rfl rfl rfl rfl rfl HR1.out (by simp;omega) (Nat.le_trans HBS.out (Nat.le_trans HO.out.size HX1.out.size)) ?_;intro g5 cap5 w5 ho5 hg5 ha5;have hx5:Ext w1 w5:=HX1.out.trans (Only.of_grown hg5) (fun _ _ h=>h) (fun i hi h=>by rcases HA1.out i h with h|h;cases h;omega);have c5:w5.cell? ⟨m,0,none⟩=some (.slice (some ⟨b,off,none⟩) L.length cap):=hx5.cellOf c1 (fun h=>h);have HX3:=Q0 hx5;have ho6:=Zjt ho5;have e6:(L.take j).length+1=j+1:=(by rw[hlt1]);rw[e6]at ho6;have HO5:=Q0 ho6;clear ho6;have HA5:=Q0 ha5;clear ho5 hg5 ha5 hx5)|(at_builtin;refine Z1n encF 22 65 2 32 _ Z2h Tryz.underlying22 rfl (by decide) Z1k Z2i (by decide) _ _ base (.slice (some ⟨g5,0,none⟩) (j+1) cap5) (L.take j++[(p,x)]) (L.drop j) w5 rfl rfl rfl _ _ _ rfl hld.symm (.inr ⟨_,rfl,Zeq HCB.out (HO.out.trans HX3.out (fun _ _ h=>h) (fun _ _ h=>h)) j⟩) HO5.out (by simp;omega) (Nat.le_trans HBS.out (Nat.le_trans HO.out.size HX3.out.size)) ?_;intro a7 m7 cp7 w7 hm7 hr7 hg7 ha7;have hx7:Ext w1 w7:=HX3.out.trans (Only.of_grown hg7) (fun _ _ h=>h) (fun i hi h=>by rcases HA5.out i h with h|h;(rcases HA1.out i h with h|h;cases h;omega);(have:=HX1.out.size;omega));have HR7:=Q0 hr7;have HX7:=Q0 hx7;have HA7:=Q0 ha7;have hf7:=Z02 (hx7.heapOf HM1.out (fun h=>h)) 0;have c7:=(Z00 (hx7.heapOf HM1.out (fun h=>h)) 0).trans rfl;clear hr7 hg7 ha7 hm7 hx7)|(at_builtin;generalize hAO:(if cap=j then some (⟨b,off,none⟩:Addr)else some ⟨b,off+j*2,none⟩)=ao;refine Z1n encF 22 65 2 32 _ Z2h Tryz.underlying22 rfl (by decide) Z1k Z2i (by decide) _ _ base (.slice (some ⟨g5,0,none⟩) (j+1) cap5) (L.take j++[(p,x)]) (L.drop j) w5 rfl rfl rfl _ _ _ rfl hld.symm (Zjc HCB.out (HO.out.trans HX3.out (fun _ _ h=>h) (fun _ _ h=>h)) hcap hAO) HO5.out (by simp;omega) (Nat.le_trans HBS.out (Nat.le_trans HO.out.size HX3.out.size)) ?_;intro a7 m7 cp7 w7 hm7 hr7 hg7 ha7;have hx7:Ext w1 w7:=HX3.out.trans (Only.of_grown hg7) (fun _ _ h=>h) (fun i hi h=>by rcases HA5.out i h with h|h;(rcases HA1.out i h with h|h;cases h;omega);(have:=HX1.out.size;omega));have HR7:=Q0 hr7;have HX7:=Q0 hx7;have HA7:=Q0 ha7;have hf7:=Z02 (hx7.heapOf HM1.out (fun h=>h)) 0;have c7:=(Z00 (hx7.heapOf HM1.out (fun h=>h)) 0).trans rfl;clear hr7 hg7 ha7 hm7 hx7 hAO))
      go_ret;exact Z36.insd H.out HO.out HX7.out (HT.out.trans HINS.out) HR7.out fun i e=>by
       rcases HA7.out i e with h|h
       ·rcases HA5.out i h with h|h
        ·rcases HA1.out i h with h|h
         ·cases h
         ·exact h
        ·exact Nat.le_trans HX1.out.size h
       ·exact Nat.le_trans HX3.out.size h
theorem Zk5(w:World)(base m:Nat)(slv:Value)(L:FL)(p x:B)(h:Z20 w base m slv L)(hr:Rising L)(hl:L.length≤1000)(hp:p.length≤999999)(hb:base≤w.heap.size) :
  Calls Tryz.prog 30 #[.pointer (some ⟨m,0,none⟩),S p,S x] w (Z36 w base m slv (putT L p x) (I (Z06 L p x))):=by
 cases hk:Z0y p with
 | false=>exact putM_bad w base m slv L p x h hp hk
 | true=>
  by_cases hx:2000<x.length
  ·exact Zo8 w base m slv L p x h hp hk hx
  ·cases hc:clash L p with
   | true=>exact Zlq w base m slv L p x h hl hp hk hx hc
   | false=>
    cases hlk:L.lookup p with
    | some y=>exact putM_old w base m slv L p x h hr hl hp hk hx hc y hlk
    | none=>
     by_cases hf:60≤L.length
     ·exact Zo9 w base m slv L p x h hl hp hk hx hc hlk hf
     ·exact putM_new w base m slv L p x h hl hp hk hx hc hlk hf hb
theorem Zi1{w:World}{base:Nat}{e:TypeId}{size:Nat}{v:Value}{n:Nat}{xs:List Value}(h:w.ownsRow base e size v n xs):∀i,v.ownBlock=some i→base≤i:=fun i hi=>(h.lt i hi).1
theorem Z49{w0 wr w':World}(I:Ext w0 wr){v:Value}(hv:∀i,v.ownBlock=some i→w0.heap.size≤i)(hg:wr.grownBy w' v.ownBlock):Ext w0 w':=
 I.trans (Only.of_grown hg) (fun _ _ h=>h) (fun i hi h=>absurd (hv i h) (by omega))
theorem Z8a(l:List B):l.flatMap (fun s=>[S s])=l.map S:=by
 induction l with
 | nil=>rfl
 | cons x l ih=>rw[List.flatMap_cons,ih];rfl
end Go.Proofs.YtnmhaipjfpongacGreatDoor
