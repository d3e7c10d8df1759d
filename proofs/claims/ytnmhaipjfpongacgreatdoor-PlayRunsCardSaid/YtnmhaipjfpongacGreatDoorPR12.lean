/- A part of this claim's proof;each theorem bears its own conditions. -/
import Derived.Laws.EntriesVeiled
import Derived.Test.YtnmhaipjfpongacGreatDoorPR11
set_option maxRecDepth 100000
set_option maxHeartbeats 2000000
namespace Go.Proofs.YtnmhaipjfpongacGreatDoor
open Go.ChangeShapes Go.WideShapes Go.ChangeAt Go.RowKit
structure Z2s(w:World)(P:Nat→Addr):Prop where
 errs:Errs w P [2,4,9]
 max:Z1m w
 atoi:Z41 w
 pow:Pow w
theorem Z2s.ext{w w':World}{P:Nat→Addr}(h:Z2s w P)(ho:Ext w w'):Z2s w' P:=⟨h.errs.ext ho,h.max.ext ho,h.atoi.ext ho,h.pow.ext ho⟩
theorem Zp4{name:B}(h:kinds.lookup name=none){w:World}{b:Nat}(hk:KMap .string S encK w b kinds) :
  (Instr.lookup 258 (.map (some b)) (S name) true).run Tryz.prog w=.ok (.tuple #[.agg #[I 0,I 0,.nilFunc,.nilFunc],.bool false]) w:=by
 have:=KMap.look (P:=Tryz.prog) Z08 hk Tryz.underlying258 Tryz.underlying9 (z:=.agg #[I 0,I 0,.nilFunc,.nilFunc]) (by kernel_rfl) name
 rw[h]at this;exact this
theorem Zp3{name:B}{k:Kd}(h:kinds.lookup name=some k){w:World}{b:Nat}(hk:KMap .string S encK w b kinds) :
  (Instr.lookup 258 (.map (some b)) (S name) true).run Tryz.prog w=.ok (.tuple #[.agg #[I k.least,I k.most,FV k.wordF,FV k.runF],.bool true]) w:=by
 have:=KMap.look (P:=Tryz.prog) Z08 hk Tryz.underlying258 Tryz.underlying9 (z:=.agg #[I 0,I 0,.nilFunc,.nilFunc]) (by kernel_rfl) name
 rw[h]at this;exact this
theorem Zmm{name:B}{k:Kd}(h:kinds.lookup name=some k){w:World}{b:Nat}(hk:KMap .string S encK w b kinds) :
  (Instr.lookup 258 (.map (some b)) (S name) false).run Tryz.prog w=.ok (.agg #[I k.least,I k.most,FV k.wordF,FV k.runF]) w:=by
 have:=KMap.look1 (P:=Tryz.prog) Z08 hk Tryz.underlying258 Tryz.underlying9 (z:=.agg #[I 0,I 0,.nilFunc,.nilFunc]) (by kernel_rfl) name
 rw[h]at this;exact this
theorem Z9s(w:World)(P:Nat→Addr)(name wd:B)(n:Nat)(hw:wd.length≤1000000)(hv:Z2s w P) :
  Calls Tryz.prog 191 #[S name,S wd,I n] w (RetE (errC P (Z1b name wd n)) w):=by
 cases hk:kinds.lookup name with
 | none=>
  have hc:Z1b name wd n=5:=by unfold Z1b;rw[hk]
  rw[hc];have HKN:=Q0 (fun(w1:World) b (h:KMap .string S encK w1 b kinds)=>Zp4 hk h)
  have HV:=Q0 hv;clear hc hk hv;go_enter Tryz.func191,Tryz.ntmps191;go_wp2_with fail;refine(Z3r w).mono ?_;rintro e w1 ⟨b,rfl,hm,ho⟩;have HO:=Q0 ho;have HM:=Q0 hm;clear ho hm;have hlk:=HKN.out w1 b HM.out;have c0:=fun o=>(HV.out.ext (HO.out.thenAlloc o)).errs.var 4 _ (by decide) rfl
  go_wp2_with fail;go_ret
  exact⟨rfl,by first|exact HO.out.thenAlloc _|exact(HO.out.thenAlloc _).thenDrewN _⟩
 | some k=>
  have HKS:=Q0 (fun(w1:World) b (h:KMap .string S encK w1 b kinds)=>Zp3 hk h)
  have HWD:=Q0 (fun W (hW:Ext w W)=>word_any W k wd hw (hv.atoi.ext hW) (hv.pow.ext hW))
  have HV:=Q0 hv;have eg:=Zj7 k;have hcode:Z1b name wd n=if n<k.least∨k.most<n∨k.word wd=false then 3 else if 100<wd.length then 10 else 0:=by unfold Z1b;rw[hk]
  generalize k.wordF=gw at *;generalize k.runF=gr at *;generalize k.least=lo at *;generalize k.most=hi at *;generalize k.word wd=r at *;clear hk hv;by_cases h1:n<lo
  ·rw[if_pos (.inl h1)]at hcode
   rw[hcode];have h1z:(n:Int)<(lo:Int):=by omega
   clear hcode h1 eg;go_enter Tryz.func191,Tryz.ntmps191;go_wp2_with fail;refine(Z3r w).mono ?_;rintro e w1 ⟨b,rfl,hm,ho⟩;have HO:=Q0 ho;have HM:=Q0 hm;clear ho hm;have hlk:=HKS.out w1 b HM.out;have c0:=fun o=>(HV.out.ext (HO.out.thenAlloc o)).errs.var 2 _ (by decide) rfl
   go_wp2_with fail;go_ret
   exact⟨rfl,HO.out.thenAlloc _⟩
  ·have h1z:¬(n:Int)<(lo:Int):=by omega
   by_cases h2:hi<n
   ·rw[if_pos (.inr (.inl h2))]at hcode
    rw[hcode];have h2z:(hi:Int)<(n:Int):=by omega
    clear hcode h1 h2 eg;go_enter Tryz.func191,Tryz.ntmps191;go_wp2_with fail;refine(Z3r w).mono ?_;rintro e w1 ⟨b,rfl,hm,ho⟩;have HO:=Q0 ho;have HM:=Q0 hm;clear ho hm;have hlk:=HKS.out w1 b HM.out;have c0:=fun o=>(HV.out.ext (HO.out.thenAlloc o)).errs.var 2 _ (by decide) rfl
    go_wp2_with fail;go_ret
    exact⟨rfl,HO.out.thenAlloc _⟩
   ·have h2z:¬(hi:Int)<(n:Int):=by omega
    cases r with
    | false=>
     rw[if_pos (.inr (.inr rfl))]at hcode;rw[hcode];clear hcode h1 h2;go_enter Tryz.func191,Tryz.ntmps191;go_wp2_with fail;refine(Z3r w).mono ?_;rintro e w1 ⟨b,rfl,hm,ho⟩;have HO:=Q0 ho;have HM:=Q0 hm;clear ho hm;have hlk:=HKS.out w1 b HM.out;go_wp2_with fail;refine(HWD.out _ (HO.out.thenAlloc _)).mono ?_;rintro e w2 ⟨rfl,ho2⟩;have HO2:=Q0 ((HO.out.thenAlloc _).then ho2);clear ho2;have c0:=(HV.out.ext HO2.out).errs.var 2 _ (by decide) rfl
     go_wp2_with fail;go_ret
     exact⟨rfl,HO2.out⟩
    | true=>
     rw[if_neg (by simp;omega)]at hcode
     clear h1 h2;by_cases h3:100<wd.length
     ·rw[if_pos h3]at hcode
      rw[hcode];have h3z:(100:Int)<(wd.length:Int):=by omega
      clear hcode h3;go_enter Tryz.func191,Tryz.ntmps191;go_wp2_with fail;refine(Z3r w).mono ?_;rintro e w1 ⟨b,rfl,hm,ho⟩;have HO:=Q0 ho;have HM:=Q0 hm;clear ho hm;have hlk:=HKS.out w1 b HM.out;go_wp2_with fail;refine(HWD.out _ (HO.out.thenAlloc _)).mono ?_;rintro e w2 ⟨rfl,ho2⟩;have HO2:=Q0 ((HO.out.thenAlloc _).then ho2);clear ho2;have c0:=(HV.out.ext HO2.out).errs.var 9 _ (by decide) rfl
      go_wp2_with fail;go_ret
      exact⟨rfl,HO2.out⟩
     ·rw[if_neg h3]at hcode
      rw[hcode];have h3z:¬(100:Int)<(wd.length:Int):=by omega
      clear hcode h3;go_enter Tryz.func191,Tryz.ntmps191;go_wp2_with fail;refine(Z3r w).mono ?_;rintro e w1 ⟨b,rfl,hm,ho⟩;have HO:=Q0 ho;have HM:=Q0 hm;clear ho hm;have hlk:=HKS.out w1 b HM.out;go_wp2_with fail;refine(HWD.out _ (HO.out.thenAlloc _)).mono ?_;rintro e w2 ⟨rfl,ho2⟩;have HO2:=Q0 ((HO.out.thenAlloc _).then ho2);clear ho2;go_wp2_with fail;go_ret;exact⟨rfl,HO2.out⟩
theorem Ziy(sep:B):∀l:List B,(Lib.join l sep).length≤Z0h l+l.length*sep.length
 | []=>by simp[Lib.join_nil]
 | x :: r=>by
  have h:∀q:List B,(Lib.joinTail sep q).length≤Z0h q+q.length*sep.length:=fun q=>by
   induction q with
   | nil=>simp[Lib.joinTail]
   | cons y q ih=>
    have e:Lib.joinTail sep (y :: q)=sep++y++Lib.joinTail sep q:=by simp[Lib.joinTail]
    rw[e,Z30,List.length_cons,Nat.succ_mul];simp;omega
  have e:Lib.join (x :: r) sep=x++Lib.joinTail sep r:=Lib.join_cons x r sep
  rw[e,List.length_append,Z30,List.length_cons,Nat.succ_mul];have:=h r;omega
theorem Zgo(w:World)(v:Value)(l:List B)(sep:B)(hv:Rd S w v l)(hn:l.length≤1000000)(hl:(Lib.join l sep).length≤140737488355328) :
  Calls Tryz.prog 144 #[v,S sep] w (RetE (S (Lib.join l sep)) w):=by
 obtain⟨a,cap,rfl,h1,h2,h3⟩:=hv;cases l with
 | nil=>
  refine(Tryz.strings_Join_none a cap ⟨sep.toArray⟩ w).mono ?_;rintro e w' ⟨rfl,rfl⟩;exact⟨rfl,Only.refl _ _⟩
 | cons x r=>
  obtain⟨b,off,rfl,hc⟩:=h3 (by simp)
  have hb:b<w.heap.size:=Z3d (hc 0 x rfl);have hcells:∀(j:Nat) y,((x :: r).map fun z=>(⟨z.toArray⟩:ByteArray))[j]?=some y→w.cell? ⟨b,off+j,none⟩=some (.string y):=fun j y hy=>by
   rw[List.getElem?_map]at hy;obtain⟨z,hz,rfl⟩:=Option.map_eq_some_iff.1 hy;exact hc j z hz
  have hm:(((x :: r).map fun z=>(⟨z.toArray⟩:ByteArray)).map (·.data.toList))=x :: r:=by
   rw[List.map_map];exact List.map_id _
  have hj:Lib.join (((x :: r).map fun z=>(⟨z.toArray⟩:ByteArray)).map (·.data.toList)) (⟨sep.toArray⟩:ByteArray).data.toList=Lib.join (x :: r) sep:=by rw[hm]
  have hlen:((x :: r).map fun z=>(⟨z.toArray⟩:ByteArray)).length=(x :: r).length:=by simp
  have h:=Tryz.strings_Join b off cap ((x :: r).map fun z=>(⟨z.toArray⟩:ByteArray)) ⟨sep.toArray⟩ w hcells hb (by rw[hlen];omega) (by rw[hlen];exact h1) (by rw[hj];exact hl)
  rw[hlen]at h;refine h.mono ?_;rintro e w' ⟨rfl,hbl⟩;exact⟨by rw[hj],Only.of_below hbl⟩
theorem join_run(w:World)(wd:B)(l:List B)(v:Value)(hv:Rd S w v l)(hb:Z0h l+l.length≤900000)(hw:wd.length≤1000) :
  Calls Tryz.prog 257 #[S wd,v] w (RetE (S (Lib.join l wd)) w):=by
 have hj:Calls Tryz.prog 144 #[v,S wd] w (RetE (S (Lib.join l wd)) w):=Zgo w v l wd hv (by omega) (by
  have h1:=Ziy wd l;have h2:l.length*wd.length≤900000*1000:=Nat.mul_le_mul (by omega) hw
  omega)
 have HJ:=Q0 hj;obtain⟨a,cap,rfl,_,_,_⟩:=hv;clear hj;go_enter Tryz.func257,Tryz.ntmps257;go_wp2_with fail;refine(HJ.out).mono ?_;rintro e w1 ⟨rfl,ho⟩;have HO:=Q0 ho;clear ho;go_wp2_with fail;go_ret;exact⟨rfl,HO.out⟩
theorem Znf(w:World)(wd:B)(v:Value):Calls Tryz.prog 256 #[S wd,v] w (RetE (S wd) w):=by
 go_enter Tryz.func256,Tryz.ntmps256
 go_wp2_with fail;go_ret
 exact⟨rfl,Only.refl _ _⟩
theorem Zdv{wd:B}(h:Zc0 wd=true):(cut1 61 wd).1≠[]:=by
 intro e
 obtain⟨_,h2,h3⟩:=Zbk 61 wd;unfold Zc0 at h;cases hf:(cut1 61 wd).2.2 with
 | true=>
  have:=h2 hf
  rw[e]at this;rw[this]at h;simp at h
 | false=>
  have:=(h3 hf).1
  rw[this]at e;simp only at e;rw[e]at h;simp at h
theorem run_kind(w:World)(P:Nat→Addr)(k:Kd)(wd:B)(l:List B)(v:Value)(hv:Rd S w v l)(hb:Z0h l+l.length≤900000)(hw:wd.length≤1000)(h1:k.least≤l.length)(h2:k.word wd=true)(hA:Z2s w P) :
  Calls Tryz.prog k.runF #[S wd,v] w (RetE (S (k.run wd l)) w):=by
 have hx:∀x r,l=x :: r→x.length≤900000:=fun x r e=>by subst e;rw[Z30]at hb;omega
 cases k with
 | write=>exact Znf w wd v
 | join=>exact join_run w wd l v hv hb hw
 | sort=>exact Zlg w wd l v hv hb hA.max
 | count=>exact Zpr w wd l v hv hb hA.max hA.pow
 | upper=>
  cases l with
  | nil=>simp[Kd.least]at h1
  | cons x r=>exact Znk w wd x r v hv (by have:=hx x r rfl;omega)
 | lines=>
  cases l with
  | nil=>simp[Kd.least]at h1
  | cons x r=>exact Zhg w wd x r v hv (hx x r rfl) hA.max
 | swap=>
  cases l with
  | nil=>simp[Kd.least]at h1
  | cons x r=>exact swap_any w wd x r v hv (hx x r rfl) hw (Zdv h2) hA.max
 | head=>
  cases l with
  | nil=>simp[Kd.least]at h1
  | cons x r=>
   obtain⟨n,hn⟩:=Option.isSome_iff_exists.1 h2;have:=head_any w wd x r v n hv (hx x r rfl) hn hA.max;show Calls _ _ _ _ (RetE (S (Z05 ((Z0t x).take ((numB 3 wd).getD 0)))) w)
   rw[hn];exact this
theorem Z6r{name wd:B}{n:Nat}(h:Z1b name wd n=0):∃k,kinds.lookup name=some k∧k.least≤n∧k.word wd=true∧wd.length≤100:=by
 unfold Z1b at h;cases hk:kinds.lookup name with
 | none=>rw[hk]at h;cases h
 | some k=>
  rw[hk]at h;simp only at h;split at h
  ·cases h
  ·rename_i h1
   split at h
   ·cases h
   ·refine⟨k,rfl,by omega,?_,by omega⟩
    cases hw:k.word wd with
    | true=>rfl
    | false=>exact absurd (.inr (.inr hw)) h1
theorem Z47(w:World)(P:Nat→Addr)(name wd:B)(l:List B)(v:Value)(hv:Rd S w v l)(hb:Z0h l+l.length≤900000)(hw:wd.length≤1000)(hA:Z2s w P) :
  Calls Tryz.prog 125 #[S name,S wd,v] w (RetE (.tuple #[S (Z17 name wd l),errC P (Z0f name wd l)]) w):=by
 have HC:=Q0 (Z9s w P name wd l.length (by omega) hA)
 cases hc:Z1b name wd l.length with
 | succ c=>
  have e1:Z0f name wd l=c+1:=by unfold Z0f;rw[hc,if_neg (Nat.succ_ne_zero _)]
  have e2:Z17 name wd l=[]:=by unfold Z17;rw[e1,if_neg (Nat.succ_ne_zero _)]
  rw[e1,e2,show errC P (c+1)=errV (P c) from rfl]
  rw[hc,show errC P (c+1)=errV (P c) from rfl]at HC
  obtain⟨a,cap,rfl,_,_,_⟩:=hv;clear e1 e2 hc hA hb hw;go_enter Tryz.func125,Tryz.ntmps125;go_wp2_with fail;refine(HC.out).mono ?_;rintro e w1 ⟨rfl,ho⟩;have HO:=Q0 ho;clear ho;go_wp2_with fail;go_ret2;exact⟨rfl,HO.out⟩
 | zero=>
  obtain⟨k,hk,h1,h2,h3⟩:=Z6r hc;have HR:=Q0 (fun W (hW:Ext w W)=>run_kind W P k wd l v (hv.ext hW) hb hw h1 h2 (hA.ext hW))
  have HKS:=Q0 (fun(w1:World) b (h:KMap .string S encK w1 b kinds)=>Zmm hk h)
  have eg:=Zn0 k;rw[hc,show errC P 0=.nilIface from rfl]at HC
  have e0:Zda name wd l=k.run wd l:=by unfold Zda;rw[hk]
  have e1:Z0f name wd l=if 2000<(k.run wd l).length then 10 else 0:=by unfold Z0f;rw[hc,if_pos rfl,e0]
  have e2:Z17 name wd l=if 2000<(k.run wd l).length then []else k.run wd l:=by
   unfold Z17;rw[e1,e0];by_cases h:2000<(k.run wd l).length
   ·rw[if_pos h,if_pos h,if_neg (by decide)]
   ·rw[if_neg h,if_neg h,if_pos rfl]
  rw[e1,e2];have HV:=Q0 hA;generalize k.run wd l=out at *;generalize k.wordF=gw at *;generalize k.runF=gr at *;generalize k.least=lo at *;generalize k.most=hi at *;have hfd:∀w,(Instr.field 257 (.agg #[I lo,I hi,FV gw,FV gr]) 3).run Tryz.prog w=.ok (FV gr) w:=fun w=>by kernel_rfl
  obtain⟨a,cap,rfl,_,_,_⟩:=hv;clear e0 e1 e2 hk h1 h2 h3 hc hA;by_cases hl:2000<out.length
  ·rw[if_pos hl,if_pos hl,show errC P 10=errV (P 9) from rfl]
   have hlz:(2000:Int)<(out.length:Int):=by omega
   clear hl;go_enter Tryz.func125,Tryz.ntmps125;go_wp2_with fail;refine(HC.out).mono ?_;rintro e w1 ⟨rfl,ho⟩;have HO:=Q0 ho;clear ho;go_wp2_with fail;refine(Z3r w1).mono ?_;rintro e w2 ⟨b,rfl,hm,ho⟩;have HO2:=Q0 (HO.out.then ho);have HM:=Q0 hm;clear hm ho;have hlk:=HKS.out w2 b HM.out;go_wp2_with fail;refine(HR.out _ HO2.out).mono ?_;rintro e w3 ⟨rfl,ho⟩;have HO3:=Q0 (HO2.out.then ho);clear ho;have c0:=(HV.out.ext HO3.out).errs.var 9 _ (by decide) rfl
   go_wp2_with fail;go_quiet (fail)
   go_wp2
   go_ret2;exact⟨rfl,HO3.out.thenDrewN _⟩
  ·rw[if_neg hl,if_neg hl,show errC P 0=.nilIface from rfl]
   have hlz:¬(2000:Int)<(out.length:Int):=by omega
   clear hl;go_enter Tryz.func125,Tryz.ntmps125;go_wp2_with fail;refine(HC.out).mono ?_;rintro e w1 ⟨rfl,ho⟩;have HO:=Q0 ho;clear ho;go_wp2_with fail;refine(Z3r w1).mono ?_;rintro e w2 ⟨b,rfl,hm,ho⟩;have HO2:=Q0 (HO.out.then ho);have HM:=Q0 hm;clear hm ho;have hlk:=HKS.out w2 b HM.out;go_wp2_with fail;refine(HR.out _ HO2.out).mono ?_;rintro e w3 ⟨rfl,ho⟩;have HO3:=Q0 (HO2.out.then ho);clear ho;go_wp2_with fail;go_ret2;exact⟨rfl,HO3.out⟩
theorem Z3k(l:List B):(Z0m l).Pairwise fun x y=>decide (x≤y)=true:=
 List.pairwise_mergeSort (fun a b c h1 h2=>by
  have h1:a≤b:=of_decide_eq_true h1;have h2:b≤c:=of_decide_eq_true h2
  exact decide_eq_true (List.le_trans h1 h2)) (fun a b=>by
  rcases List.le_total a b with h|h
  ·simp[decide_eq_true h]
  ·simp[decide_eq_true h]) _
theorem Zjs{l k:List B}(hp:l.Perm k)(hk:k.Pairwise fun x y=>decide (x≤y)=true):Z0m l=k:=by
 refine List.Perm.eq_of_pairwise (fun a b _ _ h1 h2=>?_) (Z3k l) hk ((List.mergeSort_perm _ _).trans hp)
 exact List.le_antisymm (of_decide_eq_true h1) (of_decide_eq_true h2)
theorem Zch{l k:List B}(hp:l.Perm k):Z0m l=Z0m k:=Zjs (hp.trans (List.mergeSort_perm _ _).symm) (Z3k k)
theorem Z5v(l:List B):(Z0m l).length=l.length:=List.length_mergeSort _
def Z7h(l:List B)(i:Nat):List B:=Lib.compactUpTo l.toArray i
theorem Zkf(l:List B):Z7h l l.length=Lib.compact l:=rfl
theorem Zp5(l:List B):Z7h l 0=[]:=rfl
theorem getB{l:List B}{i:Nat}{x:B}(h:l[i]?=some x):l.toArray[i]! = x:=by
 obtain⟨h1,rfl⟩:=Q2 h;rw[getElem!_pos _ i (by simpa using h1)]
 simp
theorem kept_new{l:List B}{i:Nat}{x:B}(h:l[i]?=some x)(hn:∀k y,i=k+1→l[k]?=some y→x≠y):Z7h l (i+1)=Z7h l i++[x]:=by
 unfold Z7h;rw[Lib.compactUpTo_succ,getB h];have:Lib.keeps l.toArray i=true:=by
  cases i with
  | zero=>simp[Lib.keeps]
  | succ k=>
   obtain⟨y,hy⟩:∃y,l[k]?=some y:=⟨_,Q1 (by have:=(Q2 h).1;omega)⟩
   have:=hn k y rfl hy
   refine Lib.keeps_pos ?_;rw[getB h,Nat.add_sub_cancel,getB hy];exact this
 rw[if_pos this]
theorem kept_old{l:List B}{k:Nat}{x:B}(h:l[k+1]?=some x)(hy:l[k]?=some x):Z7h l (k+1+1)=Z7h l (k+1):=by
 unfold Z7h;rw[Lib.compactUpTo_succ,Lib.keeps_neg (by omega) (by rw[getB h,Nat.add_sub_cancel,getB hy])]
 simp
theorem Zb9(l:List B):∀i n,i≤n→Z7h l i <+: Z7h l n
 | i,0,h=>by rw[Nat.le_zero.1 h];exact List.prefix_refl _
 | i,n+1,h=>by
  by_cases e:i=n+1
  ·subst e;exact List.prefix_refl _
  ·refine(Zb9 l i n (by omega)).trans ?_
   unfold Z7h;rw[Lib.compactUpTo_succ];exact List.prefix_append _ _
def RetRd(l:List B)(w:World)(e:Ending)(w':World):Prop:=∃v,e=.returned v∧Ext w w'∧Rd S w' v l
theorem Z4m(w:World)(s:B)(hs:s.length≤900000):Calls Tryz.prog 221 #[S s] w (RetRd (Z0t s) w):=by
 have hle:=Z5j 10 s;have hC:=Z3c w 10 10 (by decide) s (by omega)
 obtain⟨i,x,hix⟩:∃i x,cutc 10 s=i++[x]:=⟨_,_,(List.dropLast_concat_getLast (Z7i 10 s)).symm⟩;have hlb:Z0t s=if x=[]then i else i++[x]:=by unfold Z0t;rw[hix];simp
 rw[hlb];rw[hix,List.length_append,List.length_singleton]at hC;have hil:(i.length:Int)≤1000000:=by rw[hix]at hle;simp at hle;omega
 have hi0:(0:Int)≤(i.length:Int):=by omega
 have HC:=Q0 hC;by_cases hx:x=[]
 ·have hxq:(x==[])=true:=beq_iff_eq.2 hx
  rw[if_pos hx];clear hle hix hlb hs hx hC;go_enter Tryz.func221,Tryz.ntmps221;go_wp2_with fail;refine(HC.out).mono ?_;rintro e w1 ⟨g,cap,rfl,hr,ho⟩;have HO:=Q0 ho;have HR:=Q0 hr;clear ho hr;have HR2:Hid (Row w.heap.size w1 (.slice (some ⟨g,0,none⟩) (i.length+1) cap) (i++[x])):=Q0 (by simpa [Row] using HR.out)
  obtain⟨_,_,hv,hcp,_,hcc⟩:=HR2.out.rd;obtain⟨_,_,hg,hcell⟩:=hcc (by simp)
  simp only[List.length_append,List.length_singleton]at hv;cases hv;cases hg;have hc:w1.cell? ⟨g,i.length,none⟩=some (S x):=by simpa using hcell i.length x (by simp)
  have hcz:(i.length:Int)+1≤(cap:Int):=by simp at hcp;omega
  clear hcell hcp hcc;go_wp2_with fail;go_ret;exact⟨_,rfl,HO.out,by simpa using (HR2.out.take i.length (by simp)).rd⟩
 ·have hxq:(x==[])=false:=Q3 hx
  rw[if_neg hx];clear hle hix hlb hs hx hC;go_enter Tryz.func221,Tryz.ntmps221;go_wp2_with fail;refine(HC.out).mono ?_;rintro e w1 ⟨g,cap,rfl,hr,ho⟩;have HO:=Q0 ho;have HR:=Q0 hr;clear ho hr;have HR2:Hid (Row w.heap.size w1 (.slice (some ⟨g,0,none⟩) (i.length+1) cap) (i++[x])):=Q0 (by simpa [Row] using HR.out)
  obtain⟨_,_,hv,hcp,_,hcc⟩:=HR2.out.rd;obtain⟨_,_,hg,hcell⟩:=hcc (by simp)
  simp only[List.length_append,List.length_singleton]at hv;cases hv;cases hg;have hc:w1.cell? ⟨g,i.length,none⟩=some (S x):=by simpa using hcell i.length x (by simp)
  have hcz:(i.length:Int)+1≤(cap:Int):=by simp at hcp;omega
  clear hcell hcp hcc;go_wp2_with fail;go_ret;exact⟨_,rfl,HO.out,HR2.out.rd⟩
theorem Z1h{α:Type}[DecidableEq α]:∀{a b:List α},a.Nodup→(∀x∈a,x∈b)→a.length≤b.length
 | [],_,_,_=>Nat.zero_le _
 | x :: a,b,h,hs=>by
  rw[List.nodup_cons]at h;have hx:=hs x (.head _);have:=Z1h (a:=a) (b:=b.erase x) h.2 (fun y hy=>(List.mem_erase_of_ne (fun(e:y=x)=>h.1 (e ▸ hy))).2 (hs y (.tail _ hy)))
  rw[List.length_erase_of_mem hx]at this;have:=List.length_pos_of_mem hx;rw[List.length_cons];omega
theorem Z1r{α:Type}{l:List α}(h:l.Nodup){i j:Nat}{x:α}(hi:l[i]?=some x)(hj:l[j]?=some x):i=j:=by
 obtain⟨a,ha⟩:=Q2 hi;obtain⟨b,hb⟩:=Q2 hj;rcases Nat.lt_trichotomy i j with e|e|e
 ·exact absurd (ha.trans hb.symm) (List.pairwise_iff_getElem.1 h i j a b e)
 ·exact e
 ·exact absurd (hb.trans ha.symm) (List.pairwise_iff_getElem.1 h j i b a e)
structure Rule where
 out:B
 kind:B
 word:B
 ins:List B
structure Z3z(n:Nat)(r:Rule):Prop where
 out:r.out.length≤n
 kind:r.kind.length≤n
 word:r.word.length≤n
 many:r.ins.length≤n
 ins:∀s∈r.ins,s.length≤n
def Z0q(r:Rule):Nat:=
 if Z0y r.out=false then 4
 else if Z1b r.kind r.word r.ins.length≠0 then Z1b r.kind r.word r.ins.length
 else if r.ins.all Z0y=false then 4
 else if r.out∈r.ins∨¬r.ins.Nodup then 7 else 0
def Z3a(seen:List B)(i:Nat):List Rule→Nat×Int
 | []=>(0,-1)
 | r :: l=>if Z0q r≠0 then(Z0q r,(i:Int))else if r.out∈seen then(7,(i:Int))else Z3a (seen++[r.out]) (i+1) l
def Z04(l:List Rule):Nat×Int:=if 40<l.length then(2,-1)else Z3a [] 0 l
theorem Znb(a b:B)(n:Nat):Z1b a b n≤12:=by
 unfold Z1b;split
 ·omega
 ·split
  ·omega
  ·split <;> omega
def Z34(l:List Rule):Prop:=l.length≤40∧(∀r∈l,Z0q r=0)∧(l.map Rule.out).Nodup
theorem Zci:∀(l:List Rule)(seen:List B)(i:Nat),(Z3a seen i l).1=0↔(∀r∈l,Z0q r=0)∧(l.map Rule.out).Nodup∧∀r∈l,r.out∉seen
 | [],_,_=>by simp[Z3a]
 | r :: l,seen,i=>by
  unfold Z3a;by_cases h1:Z0q r=0
  ·rw[if_neg (by simpa using h1)]
   by_cases h2:r.out∈seen
   ·rw[if_pos h2]
    simp[h2]
   ·rw[if_neg h2,Zci l (seen++[r.out]) (i+1)]
    simp only[List.mem_cons,forall_eq_or_imp,h1,true_and,List.map_cons,List.nodup_cons,List.mem_append,List.not_mem_nil,or_false,not_or];constructor
    ·rintro⟨a,b,c⟩
     refine⟨a,⟨fun h=>?_,b⟩,h2,fun x hx=>(c x hx).1⟩
     obtain⟨x,hx,e⟩:=List.mem_map.1 h;exact(c x hx).2 e
    ·rintro⟨a,⟨b,c⟩,_,d⟩
     exact⟨a,c,fun x hx=>⟨d x hx,fun e=>b (List.mem_map.2 ⟨x,hx,e⟩)⟩⟩
  ·rw[if_pos h1]
   simp[h1]
theorem Z2e{l:List Rule}:(Z04 l).1=0↔Z34 l:=by
 unfold Z04 Z34;by_cases h:40<l.length
 ·rw[if_pos h]
  simp;omega
 ·rw[if_neg h,Zci]
  simp;omega
theorem Z9b:∀(l:List Rule)(seen:List B)(i:Nat),(Z3a seen i l).1=0→(Z3a seen i l).2=-1
 | [],_,_,_=>rfl
 | r :: l,seen,i,h=>by
  unfold Z3a at h ⊢;by_cases h1:Z0q r≠0
  ·rw[if_pos h1]at h;exact absurd h h1
  ·rw[if_neg h1]at h ⊢
   by_cases h2:r.out∈seen
   ·rw[if_pos h2]at h;cases h
   ·rw[if_neg h2]at h ⊢;exact Z9b l _ _ h
theorem Z8r{l:List Rule}(h:(Z04 l).1=0):Z04 l=(0,-1):=by
 have:(Z04 l).2=-1:=by
  unfold Z04 at h ⊢;by_cases h1:40<l.length
  ·rw[if_pos h1]
  ·rw[if_neg h1]at h ⊢;exact Z9b _ _ _ h
 exact Prod.ext h this
def RdR(w:World)(v:Value)(l:List Rule):Prop:=
 ∃a cap,v=.slice a l.length cap∧l.length≤cap∧cap≤maxLen∧(l≠[]→∃b off,a=some ⟨b,off,none⟩∧
  ∀(i:Nat) r,l[i]?=some r→∃u,Rd S w u r.ins∧w.cell? ⟨b,off+i*4,none⟩=some (S r.out)∧w.cell? ⟨b,off+i*4+1,none⟩=some (S r.kind)∧w.cell? ⟨b,off+i*4+2,none⟩=some (S r.word)∧w.cell? ⟨b,off+i*4+3,none⟩=some u)
theorem RdR.nil(w:World):RdR w (.slice none 0 0) []:=⟨none,0,rfl,Nat.le_refl _,Nat.zero_le _,fun h=>absurd rfl h⟩
theorem RdR.ext{w w':World}{v:Value}{l:List Rule}(h:RdR w v l)(ho:Ext w w'):RdR w' v l:=by
 obtain⟨a,cap,h1,h2,h3,h4⟩:=h;refine⟨a,cap,h1,h2,h3,fun hl=>?_⟩
 obtain⟨b,off,h5,h6⟩:=h4 hl;refine⟨b,off,h5,fun i r hr=>?_⟩
 obtain⟨u,c,c0,c1,c2,c3⟩:=h6 i r hr;exact⟨u,c.ext ho,ho.cellOf c0 (fun h=>h),ho.cellOf c1 (fun h=>h),ho.cellOf c2 (fun h=>h),ho.cellOf c3 (fun h=>h)⟩
theorem RdR.take{w:World}{a:Option Addr}{cap:Nat}{l:List Rule}(h:RdR w (.slice a l.length cap) l)(j:Nat)(hj:j≤l.length):RdR w (.slice a j cap) (l.take j):=by
 obtain⟨a',cap',h1,h2,h3,h4⟩:=h;cases h1;have e:(l.take j).length=j:=by rw[List.length_take];omega
 refine⟨a,cap,by rw[e],by omega,h3,fun hl=>?_⟩
 obtain⟨b,off,h5,h6⟩:=h4 (fun e=>hl (by rw[e];simp))
 refine⟨b,off,h5,fun i r hr=>h6 i r ?_⟩
 rw[List.getElem?_take]at hr;split at hr
 ·exact hr
 ·cases hr
abbrev AggR(r:Rule)(u:Value):Value:=.agg #[S r.out,S r.kind,S r.word,u]
def idx{α:Type}(p:α→Bool)(l:List α):Int:=match l.findIdx? p with|some i=>(i:Int)|none=>-1
theorem Z90{α:Type}{p:α→Bool}{l:List α}{k:Nat}{x:α}(hx:l[k]?=some x)(hp:p x=true)(hb:∀j y,j<k→l[j]?=some y→p y=false):idx p l=k:=by
 have:l.findIdx? p=some k:=by
  rw[List.findIdx?_eq_some_iff_getElem];obtain⟨h1,h2⟩:=Q2 hx;refine⟨h1,by rw[h2];exact hp,fun j hj=>?_⟩
  have:=hb j _ hj (Q1 (by omega))
  simpa using this
 unfold idx;rw[this]
theorem Z5i{α:Type}{p:α→Bool}{l:List α}(hb:∀(j:Nat) y,l[j]?=some y→p y=false):idx p l=-1:=by
 have:l.findIdx? p=none:=by
  rw[List.findIdx?_eq_none_iff];intro x hx;obtain⟨i,hi⟩:=List.getElem?_of_mem hx;exact hb i x hi
 unfold idx;rw[this]
theorem Z91{α:Type}(p:α→Bool)(l:List α):decide (0≤idx p l)=l.any p:=by
 unfold idx;cases h:l.findIdx? p with
 | none=>
  rw[List.findIdx?_eq_none_iff]at h;have:l.any p=false:=by rw[List.any_eq_false];intro x hx;simpa using h x hx
  rw[this];rfl
 | some i=>
  rw[List.findIdx?_eq_some_iff_getElem]at h;obtain⟨h1,h2,_⟩:=h;have:l.any p=true:=List.any_eq_true.2 ⟨l[i],List.getElem_mem h1,h2⟩;rw[this];exact decide_eq_true (Int.natCast_nonneg i)
end Go.Proofs.YtnmhaipjfpongacGreatDoor
namespace Go.Proofs.YtnmhaipjfpongacGreatDoor
def Z07(l:List Rule)(i k:Nat):Bool:=match l[i]?,l[k]? with
 | some r,some q=>r.ins.contains q.out
 | _,_=>false
theorem Z5g{l:List Rule}{i k:Nat}(h:Z07 l i k=true):i<l.length∧k<l.length:=by
 unfold Z07 at h;split at h
 ·rename_i r q h1 h2
  exact⟨(Q2 h1).1,(Q2 h2).1⟩
 ·cases h
def Z24(n:Nat)(nd:Nat→Nat→Bool)(i:Nat):List Nat:=(List.range n).filter (nd i)
theorem Z3l{n:Nat}{nd:Nat→Nat→Bool}{i j:Nat}:j∈Z24 n nd i↔j<n∧nd i j=true:=by
 unfold Z24;rw[List.mem_filter,List.mem_range]
def Z3f(n:Nat)(nd:Nat→Nat→Bool)(is:Nat→Bool)(done:List Nat)(i:Nat):Bool:=is i&&!done.contains i&&!(Z24 n nd i).any fun j=>!done.contains j
def Z6v(n:Nat)(nd:Nat→Nat→Bool)(is:Nat→Bool)(done:List Nat):Option Nat:=(List.range n).find? (Z3f n nd is done)
def Z28(n:Nat)(is:Nat→Bool):Nat:=((List.range n).filter is).length
def Z1g(n:Nat)(nd:Nat→Nat→Bool)(is:Nat→Bool):Nat→List Nat→Option (List Nat)
 | 0,out=>if out.length<Z28 n is then none else some out
 | f+1,out=>if out.length<Z28 n is then match Z6v n nd is out with
   | none=>none
   | some k=>Z1g n nd is f (out++[k])
  else some out
def Z3w(n:Nat)(nd:Nat→Nat→Bool)(is:Nat→Bool):Option (List Nat):=Z1g n nd is n []
structure Ordered(n:Nat)(nd:Nat→Nat→Bool)(is:Nat→Bool)(out:List Nat):Prop where
 nodup:out.Nodup
 lt:∀i∈out,i<n
 is:∀i∈out,is i=true
 need:∀(j:Nat) i,out[j]?=some i→∀k<n,nd i k=true→k∈out.take j
theorem Ordered.nil(n:Nat)(nd:Nat→Nat→Bool)(is:Nat→Bool):Ordered n nd is []:=⟨List.nodup_nil,by simp,by simp,by simp⟩
theorem Ordered.len{n:Nat}{nd:Nat→Nat→Bool}{is:Nat→Bool}{out:List Nat}(h:Ordered n nd is out):out.length≤Z28 n is:=
 Z1h h.nodup (fun i hi=>List.mem_filter.2 ⟨List.mem_range.2 (h.lt i hi),h.is i hi⟩)
theorem Z6m{n:Nat}{nd:Nat→Nat→Bool}{is:Nat→Bool}{out:List Nat}{k:Nat}(h:Z6v n nd is out=some k):k<n∧is k=true∧k∉out∧∀j<n,nd k j=true→j∈out:=by
 have h1:=List.find?_some h;have h2:=List.mem_of_find?_eq_some h;unfold Z3f at h1;rw[Bool.and_eq_true,Bool.and_eq_true,Bool.not_eq_true',Bool.not_eq_true',List.any_eq_false]at h1;obtain⟨⟨a,b⟩,c⟩:=h1;refine⟨List.mem_range.1 h2,a,fun hm=>?_,fun j hj hn=>?_⟩
 ·rw[List.contains_eq_mem,decide_eq_true hm]at b;cases b
 ·have:=c j (Z3l.2 ⟨hj,hn⟩)
  rw[Bool.not_eq_true',Bool.not_eq_false,List.contains_eq_mem]at this;exact of_decide_eq_true this
theorem Ordered.next{n:Nat}{nd:Nat→Nat→Bool}{is:Nat→Bool}{out:List Nat}{k:Nat}(h:Ordered n nd is out)(hk:Z6v n nd is out=some k):Ordered n nd is (out++[k]):=by
 obtain⟨h1,h2,h3,h4⟩:=Z6m hk;refine⟨?_,?_,?_,?_⟩
 ·rw[List.nodup_append]
  refine⟨h.nodup,by simp,fun a ha b hb e=>?_⟩
  rw[List.mem_singleton]at hb;subst hb;subst e;exact h3 ha
 ·intro i hi
  rcases List.mem_append.1 hi with hi|hi
  ·exact h.lt i hi
  ·rw[List.mem_singleton.1 hi];exact h1
 ·intro i hi
  rcases List.mem_append.1 hi with hi|hi
  ·exact h.is i hi
  ·rw[List.mem_singleton.1 hi];exact h2
 ·intro j i hj m hm hn
  by_cases hlt:j<out.length
  ·rw[List.getElem?_append_left hlt]at hj
   rw[List.take_append_of_le_length (by omega)]
   exact h.need j i hj m hm hn
  ·rw[List.getElem?_append_right (by omega)]at hj
   have hj0:j-out.length=0:=by
    have:=(Q2 hj).1
    simp at this;omega
   rw[hj0]at hj;cases hj;rw[show j=out.length by omega,List.take_left]
   exact h4 m hm hn
theorem Z9f{n:Nat}{nd:Nat→Nat→Bool}{is:Nat→Bool}:∀{f:Nat} {out o:List Nat},Ordered n nd is out→Z1g n nd is f out=some o→Ordered n nd is o∧o.length=Z28 n is
 | 0,out,o,h,e=>by
  unfold Z1g at e;split at e
  ·cases e
  ·cases e;exact⟨h,Nat.le_antisymm h.len (by omega)⟩
 | f+1,out,o,h,e=>by
  unfold Z1g at e;split at e
  ·split at e
   ·cases e
   ·rename_i k hk
    exact Z9f (h.next hk) e
  ·cases e;exact⟨h,Nat.le_antisymm h.len (by omega)⟩
theorem Z9g{n:Nat}{nd:Nat→Nat→Bool}{is:Nat→Bool}:∀{f:Nat} {out:List Nat},Ordered n nd is out→Z28 n is≤out.length+f→Z1g n nd is f out=none→∃o,Ordered n nd is o∧o.length<Z28 n is∧Z6v n nd is o=none
 | 0,out,h,hf,e=>by
  unfold Z1g at e;split at e
  ·omega
  ·cases e
 | f+1,out,h,hf,e=>by
  unfold Z1g at e;split at e
  ·rename_i hlt
   split at e
   ·rename_i hn;exact⟨out,h,hlt,hn⟩
   ·rename_i k hk
    exact Z9g (h.next hk) (by rw[List.length_append];simp;omega) e
  ·cases e
theorem Z4o(n:Nat)(is:Nat→Bool):Z28 n is≤n:=by
 unfold Z28;have:=List.length_filter_le is (List.range n);rw[List.length_range]at this;exact this
theorem Z1v{n:Nat}{nd:Nat→Nat→Bool}{is:Nat→Bool}{o:List Nat}(h:Z3w n nd is=some o):Ordered n nd is o∧o.length=Z28 n is:=Z9f (Ordered.nil n nd is) h
theorem Zif{n:Nat}{nd:Nat→Nat→Bool}{is:Nat→Bool}(h:Z3w n nd is=none):∃o,Ordered n nd is o∧o.length<Z28 n is∧Z6v n nd is o=none:=
 Z9g (Ordered.nil n nd is) (by have:=Z4o n is;simp;omega) h
def Way(nd:Nat→Nat→Bool)(tg:Nat):Nat→Nat→Prop
 | 0,i=>i=tg
 | s+1,i=>∃j,nd i j=true∧Way nd tg s j
theorem Ordered.no_way{n:Nat}{nd:Nat→Nat→Bool}{is:Nat→Bool}{o:List Nat}(h:Ordered n nd is o)(hnd:∀i j,nd i j=true→j<n):∀{s i j:Nat} {tg:Nat},o[j]?=some i→1≤s→Way nd tg s i→∃j',j'<j∧o[j']?=some tg
 | 0,_,_,_,_,h1,_=>by omega
 | s+1,i,j,tg,hj,_,⟨k,hk,hw⟩=>by
  have hm:=h.need j i hj k (hnd i k hk) hk;obtain⟨j1,hj1⟩:=List.getElem?_of_mem hm;rw[List.getElem?_take]at hj1;split at hj1
  ·rename_i hlt
   cases s with
   | zero=>
    have:k=tg:=hw
    subst this;exact⟨j1,hlt,hj1⟩
   | succ s=>
    obtain⟨j2,h2,h3⟩:=h.no_way hnd (s:=s+1) hj1 (by omega) hw
    exact⟨j2,by omega,h3⟩
  ·cases hj1
theorem Ordered.no_circle{n:Nat}{nd:Nat→Nat→Bool}{is:Nat→Bool}{o:List Nat}(h:Ordered n nd is o)(hnd:∀i j,nd i j=true→j<n){s i:Nat}(hi:i∈o)(hs:1≤s):¬Way nd i s i:=by
 intro hw
 obtain⟨j,hj⟩:=List.getElem?_of_mem hi;obtain⟨j',h1,h2⟩:=h.no_way hnd hj hs hw;have:=Z1r h.nodup hj h2;omega
theorem Zps{n:Nat}{nd:Nat→Nat→Bool}{p:Nat→Prop}(hn:∀i,p i→i<n)(hs:∀i,p i→∃j,nd i j=true∧p j){a:Nat}(ha:p a):∃i s,p i∧1≤s∧Way nd i s i:=by
 classical
 -- the walk from a
 let nx:{i // p i}→{i // p i}:=fun x=>⟨(hs x.1 x.2).choose,(hs x.1 x.2).choose_spec.2⟩
 let f:Nat→{i // p i}:=fun k=>Nat.rec ⟨a,ha⟩ (fun _ x=>nx x) k
 have hf:∀k,nd (f k).1 (f (k+1)).1=true:=fun k=>(hs (f k).1 (f k).2).choose_spec.1
 have hway:∀s k,Way nd (f (k+s)).1 s (f k).1:=by
  intro s
  induction s with
  | zero=>intro k;rfl
  | succ s ih=>
   intro k
   refine⟨(f (k+1)).1,hf k,?_⟩;have:=ih (k+1)
   rwa [show k+1+s=k+(s+1) by omega]at this
 -- two of the first n+1 are one
 have hdup:∃i j,i<j∧(f i).1=(f j).1:=by
  by_cases h:∃i j,i<j∧(f i).1=(f j).1
  ·exact h
  ·exfalso
   have hnd:((List.range (n+1)).map fun k=>(f k).1).Nodup:=by
    rw[List.nodup_iff_pairwise_ne,List.pairwise_map];refine List.Pairwise.imp_of_mem ?_ (List.pairwise_lt_range (n:=n+1));intro x y _ _ hxy e;exact h ⟨x,y,hxy,e⟩
   have hsub:∀x∈((List.range (n+1)).map fun k=>(f k).1),x∈List.range n:=by
    intro x hx
    obtain⟨k,_,rfl⟩:=List.mem_map.1 hx;exact List.mem_range.2 (hn _ (f k).2)
   have:=Z1h hnd hsub
   simp at this
   omega
 obtain⟨i,j,hij,e⟩:=hdup;refine⟨(f i).1,j-i,(f i).2,by omega,?_⟩
 have:=hway (j-i) i
 rw[show i+(j-i)=j by omega,←e]at this
 exact this
theorem Z7x{n:Nat}{nd:Nat→Nat→Bool}{is:Nat→Bool}(h:Z3w n nd is=none)(hcl:∀i j,i<n→is i=true→nd i j=true→j<n∧is j=true):∃i s,i<n∧is i=true∧1≤s∧Way nd i s i:=by
 obtain⟨o,ho,hlen,hnx⟩:=Zif h
 -- one is left
 have hleft:∃a,a<n∧is a=true∧a∉o:=by
  by_cases hx:∃a,a<n∧is a=true∧a∉o
  ·exact hx
  ·exfalso
   have hsub:∀a∈(List.range n).filter is,a∈o:=by
    intro a ha
    rw[List.mem_filter,List.mem_range]at ha;exact Classical.byContradiction fun hn=>hx ⟨a,ha.1,ha.2,hn⟩
   have hnd2:((List.range n).filter is).Nodup:=List.nodup_range.filter _;have:=Z1h hnd2 hsub;unfold Z28 at hlen;omega
 obtain⟨a,h1,h2,h3⟩:=hleft;have hs:∀i,(i<n∧is i=true∧i∉o)→∃j,nd i j=true∧(j<n∧is j=true∧j∉o):=by
  rintro i ⟨hi,hii,hio⟩;unfold Z6v at hnx;rw[List.find?_eq_none]at hnx;have:=hnx i (List.mem_range.2 hi);unfold Z3f at this;have hc:o.contains i=false:=by rw[List.contains_eq_mem];exact decide_eq_false hio
  rw[hii,hc]at this;simp only[Bool.not_false,Bool.true_and,Bool.and_true,Bool.not_eq_true',Bool.not_eq_false]at this;obtain⟨j,hj,hjo⟩:=List.any_eq_true.1 this;obtain⟨hjn,hnj⟩:=Z3l.1 hj;refine⟨j,hnj,hjn,(hcl i j hi hii hnj).2,fun hm=>?_⟩
  rw[List.contains_eq_mem,decide_eq_true hm]at hjo;cases hjo
 obtain⟨i,s,⟨x1,x2,_⟩,h5,h6⟩:=Zps (n:=n) (nd:=nd) (p:=fun i=>i<n∧is i=true∧i∉o) (fun i h=>h.1) hs ⟨h1,h2,h3⟩
 exact⟨i,s,x1,x2,h5,h6⟩
end Go.Proofs.YtnmhaipjfpongacGreatDoor
namespace Go.Proofs.YtnmhaipjfpongacGreatDoor
open Go.ChangeShapes Go.WideShapes Go.ChangeAt Go.RowKit
theorem Z65(g:Nat)(x0:Value)(p:Rule→Bool)(w:World)(v:Value)(l:List Rule)(hv:RdR w v l)(eg:∀args w,(callFunc g args).run Tryz.prog w=.ok (.enter g args) w)
  (hp:∀w1,Ext w w1→∀r u,r∈l→Rd S w1 u r.ins→Calls Tryz.prog g #[AggR r u,x0] w1 (RetE (.bool (p r)) w1)) :
  Calls Tryz.prog 161 #[v,.func (.func g) #[] #[x0]] w (RetE (I (idx p l)) w):=by
 obtain⟨a,cap,rfl,hcap,hm,hc⟩:=hv;have hm':l.length≤9223372036854775807:=by unfold maxLen at hm;omega
 obtain⟨R,hR⟩:∃R,Hid (R=idx p l):=⟨_,Q0 rfl⟩;rw[←hR.out];clear hm;have HP:=Q0 hp;have HC:=Q0 hc;clear hp hc;go_enter Tryz.func161,Tryz.ntmps161;go_wp2;go_loopw [8] (fun i wr=>∃k:Nat,k≤l.length∧i=.int .i64 k∧Hid (∀j x,j<k→l[j]?=some x→p x=false)∧Hid (Ext w wr)) (fun i _=>l.length+1-(intOf i).toNat)
 case atStart=>exact⟨0,Nat.zero_le _,rfl,Q0 (fun j x h=>absurd h (Nat.not_lt_zero _)),Q0 (Only.refl _ _)⟩
 case round=>
  obtain⟨k,hk,rfl,HB,HX⟩:=hrel;by_cases hlt:k<l.length
  ·obtain⟨b,off,rfl,hcell⟩:=HC.out (by intro h;rw[h]at hlt;simp at hlt)
   obtain⟨x,hx⟩:∃y,l[k]?=some y:=⟨_,Q1 hlt⟩;obtain⟨u,hu,c0,c1,c2,c3⟩:=hcell k x hx;have d0:=HX.out.cellOf c0 (fun h=>h)
   have d1:=HX.out.cellOf c1 (fun h=>h)
   have d2:=HX.out.cellOf c2 (fun h=>h)
   have d3:=HX.out.cellOf c3 (fun h=>h)
   have hp1:=HP.out wr HX.out x u (Q4 hx) (hu.ext HX.out);clear hu c0 c1 c2 c3;have HXX:=Q0 hx;clear hcell hx;cases hq:p x with
   | false=>
    rw[hq]at hp1;have HQ:=Q0 hq;have HP1:=Q0 hp1;clear hq hp1;go_wp2_with fail;refine(HP1.out).mono ?_;rintro e w' ⟨rfl,ho⟩;have HX2:=Q0 (HX.out.ext ho);clear ho;go_wp2;go_roundw
    case rel=>exact⟨k+1,by omega,by go_num,Q0 (fun j y hj hy=>by
     rcases Nat.lt_succ_iff_lt_or_eq.1 hj with h|rfl
     ·exact HB.out j y h hy
     ·rw[HXX.out]at hy;cases hy;exact HQ.out),HX2⟩
    case measure=>simp[intOf];omega
   | true=>
    rw[hq]at hp1;have HK:=Q0 (Z90 HXX.out hq HB.out);have HP1:=Q0 hp1;clear hp1;clear hq;go_wp2_with fail;refine(HP1.out).mono ?_;rintro e w' ⟨rfl,ho⟩;have HX2:=Q0 (HX.out.ext ho);clear ho;go_wp2;go_ret;exact⟨by rw[hR.out,HK.out];rfl,HX2.out⟩
  ·have HK:=Q0 (Z5i (p:=p) (l:=l) fun j y hy=>HB.out j y (by have:=(Q2 hy).1;omega) hy)
   go_wp2
   go_ret;exact⟨by rw[hR.out,HK.out];rfl,HX.out⟩
theorem Zbl(g:Nat)(x0:Value)(p:Rule→Bool)(w:World)(v:Value)(l:List Rule)(hv:RdR w v l)(eg:∀args w,(callFunc g args).run Tryz.prog w=.ok (.enter g args) w)
  (hp:∀w1,Ext w w1→∀r u,r∈l→Rd S w1 u r.ins→Calls Tryz.prog g #[AggR r u,x0] w1 (RetE (.bool (p r)) w1)) :
  Calls Tryz.prog 158 #[v,.func (.func g) #[] #[x0]] w (RetE (.bool (l.any p)) w):=by
 have HI:=Q0 (Z65 g x0 p w v l hv eg hp);rw[←Z91];generalize idx p l=R at HI ⊢;obtain⟨a,cap,rfl,_,_,_⟩:=hv;clear hp eg;go_enter Tryz.func158,Tryz.ntmps158;go_wp2_with fail;refine(HI.out).mono ?_;rintro e w1 ⟨rfl,ho⟩;have HO:=Q0 ho;clear ho;go_wp2_with fail;go_ret;exact⟨rfl,HO.out⟩
theorem Zgs(g:Nat)(x0:Value)(p:Int→Bool)(w:World)(v:Value)(l:List Int)(hv:Rd I w v l)(eg:∀args w,(callFunc g args).run Tryz.prog w=.ok (.enter g args) w)
  (hp:∀w1,Ext w w1→∀x,x∈l→Calls Tryz.prog g #[I x,x0] w1 (RetE (.bool (p x)) w1)) :
  Calls Tryz.prog 278 #[v,.func (.func g) #[] #[x0]] w (RetE (I (idx p l)) w):=by
 obtain⟨a,cap,rfl,hcap,hm,hc⟩:=hv;have hm':l.length≤9223372036854775807:=by unfold maxLen at hm;omega
 obtain⟨R,hR⟩:∃R,Hid (R=idx p l):=⟨_,Q0 rfl⟩;rw[←hR.out];clear hm;have HP:=Q0 hp;have HC:=Q0 hc;clear hp hc;go_enter Tryz.func278,Tryz.ntmps278;go_wp2;go_loopw [8] (fun i wr=>∃k:Nat,k≤l.length∧i=.int .i64 k∧Hid (∀j x,j<k→l[j]?=some x→p x=false)∧Hid (Ext w wr)) (fun i _=>l.length+1-(intOf i).toNat)
 case atStart=>exact⟨0,Nat.zero_le _,rfl,Q0 (fun j x h=>absurd h (Nat.not_lt_zero _)),Q0 (Only.refl _ _)⟩
 case round=>
  obtain⟨k,hk,rfl,HB,HX⟩:=hrel;by_cases hlt:k<l.length
  ·obtain⟨b,off,rfl,hcell⟩:=HC.out (by intro h;rw[h]at hlt;simp at hlt)
   obtain⟨x,hx⟩:∃y,l[k]?=some y:=⟨_,Q1 hlt⟩;have d0:=HX.out.cellOf (hcell k x hx) (fun h=>h)
   have hp1:=HP.out wr HX.out x (Q4 hx);have HXX:=Q0 hx;clear hcell hx;cases hq:p x with
   | false=>
    rw[hq]at hp1;have HQ:=Q0 hq;have HP1:=Q0 hp1;clear hq hp1;go_wp2_with fail;refine(HP1.out).mono ?_;rintro e w' ⟨rfl,ho⟩;have HX2:=Q0 (HX.out.ext ho);clear ho;go_wp2;go_roundw
    case rel=>exact⟨k+1,by omega,by go_num,Q0 (fun j y hj hy=>by
     rcases Nat.lt_succ_iff_lt_or_eq.1 hj with h|rfl
     ·exact HB.out j y h hy
     ·rw[HXX.out]at hy;cases hy;exact HQ.out),HX2⟩
    case measure=>simp[intOf];omega
   | true=>
    rw[hq]at hp1;have HK:=Q0 (Z90 HXX.out hq HB.out);have HP1:=Q0 hp1;clear hp1;clear hq;go_wp2_with fail;refine(HP1.out).mono ?_;rintro e w' ⟨rfl,ho⟩;have HX2:=Q0 (HX.out.ext ho);clear ho;go_wp2;go_ret;exact⟨by rw[hR.out,HK.out];rfl,HX2.out⟩
  ·have HK:=Q0 (Z5i (p:=p) (l:=l) fun j y hy=>HB.out j y (by have:=(Q2 hy).1;omega) hy)
   go_wp2
   go_ret;exact⟨by rw[hR.out,HK.out];rfl,HX.out⟩
theorem Z6a(g:Nat)(x0:Value)(p:Int→Bool)(w:World)(v:Value)(l:List Int)(hv:Rd I w v l)(eg:∀args w,(callFunc g args).run Tryz.prog w=.ok (.enter g args) w)
  (hp:∀w1,Ext w w1→∀x,x∈l→Calls Tryz.prog g #[I x,x0] w1 (RetE (.bool (p x)) w1)) :
  Calls Tryz.prog 211 #[v,.func (.func g) #[] #[x0]] w (RetE (.bool (l.any p)) w):=by
 have HI:=Q0 (Zgs g x0 p w v l hv eg hp);rw[←Z91];generalize idx p l=R at HI ⊢;obtain⟨a,cap,rfl,_,_,_⟩:=hv;clear hp eg;go_enter Tryz.func211,Tryz.ntmps211;go_wp2_with fail;refine(HI.out).mono ?_;rintro e w1 ⟨rfl,ho⟩;have HO:=Q0 ho;clear ho;go_wp2_with fail;go_ret;exact⟨rfl,HO.out⟩
theorem Zgr(g:Nat)(p:Nat→Bool)(w:World)(v:Value)(l:List Nat)(hv:Rd (fun b=>.pointer (some ⟨b,0,none⟩)) w v l)(eg:∀args w,(callFunc g args).run Tryz.prog w=.ok (.enter g args) w)
  (hp:∀w1,Ext w w1→∀x,x∈l→Calls Tryz.prog g #[.pointer (some ⟨x,0,none⟩)] w1 (RetE (.bool (p x)) w1)) :
  Calls Tryz.prog 252 #[v,.func (.func g) #[] #[]] w (RetE (I (idx p l)) w):=by
 obtain⟨a,cap,rfl,hcap,hm,hc⟩:=hv;have hm':l.length≤9223372036854775807:=by unfold maxLen at hm;omega
 obtain⟨R,hR⟩:∃R,Hid (R=idx p l):=⟨_,Q0 rfl⟩;rw[←hR.out];clear hm;have HP:=Q0 hp;have HC:=Q0 hc;clear hp hc;go_enter Tryz.func252,Tryz.ntmps252;go_wp2;go_loopw [8] (fun i wr=>∃k:Nat,k≤l.length∧i=.int .i64 k∧Hid (∀j x,j<k→l[j]?=some x→p x=false)∧Hid (Ext w wr)) (fun i _=>l.length+1-(intOf i).toNat)
 case atStart=>exact⟨0,Nat.zero_le _,rfl,Q0 (fun j x h=>absurd h (Nat.not_lt_zero _)),Q0 (Only.refl _ _)⟩
 case round=>
  obtain⟨k,hk,rfl,HB,HX⟩:=hrel;by_cases hlt:k<l.length
  ·obtain⟨b,off,rfl,hcell⟩:=HC.out (by intro h;rw[h]at hlt;simp at hlt)
   obtain⟨x,hx⟩:∃y,l[k]?=some y:=⟨_,Q1 hlt⟩;have d0:=HX.out.cellOf (hcell k x hx) (fun h=>h)
   have hp1:=HP.out wr HX.out x (Q4 hx);have HXX:=Q0 hx;clear hcell hx;cases hq:p x with
   | false=>
    rw[hq]at hp1;have HQ:=Q0 hq;have HP1:=Q0 hp1;clear hq hp1;go_wp2_with fail;refine(HP1.out).mono ?_;rintro e w' ⟨rfl,ho⟩;have HX2:=Q0 (HX.out.ext ho);clear ho;go_wp2;go_roundw
    case rel=>exact⟨k+1,by omega,by go_num,Q0 (fun j y hj hy=>by
     rcases Nat.lt_succ_iff_lt_or_eq.1 hj with h|rfl
     ·exact HB.out j y h hy
     ·rw[HXX.out]at hy;cases hy;exact HQ.out),HX2⟩
    case measure=>simp[intOf];omega
   | true=>
    rw[hq]at hp1;have HK:=Q0 (Z90 HXX.out hq HB.out);have HP1:=Q0 hp1;clear hp1;clear hq;go_wp2_with fail;refine(HP1.out).mono ?_;rintro e w' ⟨rfl,ho⟩;have HX2:=Q0 (HX.out.ext ho);clear ho;go_wp2;go_ret;exact⟨by rw[hR.out,HK.out];rfl,HX2.out⟩
  ·have HK:=Q0 (Z5i (p:=p) (l:=l) fun j y hy=>HB.out j y (by have:=(Q2 hy).1;omega) hy)
   go_wp2
   go_ret;exact⟨by rw[hR.out,HK.out];rfl,HX.out⟩
theorem Z69(g:Nat)(p:Nat→Bool)(w:World)(v:Value)(l:List Nat)(hv:Rd (fun b=>.pointer (some ⟨b,0,none⟩)) w v l)(eg:∀args w,(callFunc g args).run Tryz.prog w=.ok (.enter g args) w)
  (hp:∀w1,Ext w w1→∀x,x∈l→Calls Tryz.prog g #[.pointer (some ⟨x,0,none⟩)] w1 (RetE (.bool (p x)) w1)) :
  Calls Tryz.prog 185 #[v,.func (.func g) #[] #[]] w (RetE (.bool (l.any p)) w):=by
 have HI:=Q0 (Zgr g  p w v l hv eg hp);rw[←Z91];generalize idx p l=R at HI ⊢;obtain⟨a,cap,rfl,_,_,_⟩:=hv;clear hp eg;go_enter Tryz.func185,Tryz.ntmps185;go_wp2_with fail;refine(HI.out).mono ?_;rintro e w1 ⟨rfl,ho⟩;have HO:=Q0 ho;clear ho;go_wp2_with fail;go_ret;exact⟨rfl,HO.out⟩
end Go.Proofs.YtnmhaipjfpongacGreatDoor
