/- A part of this claim's proof;each theorem bears its own conditions. -/
import Derived.Test.YtnmhaipjfpongacGreatDoorPR24
set_option maxRecDepth 100000
set_option maxHeartbeats 8000000
namespace Go.Proofs.YtnmhaipjfpongacGreatDoor
open Go.ChangeShapes Go.WideShapes Go.ChangeAt Go.RowKit
theorem Z1d{w w':World}(h:Ext w w'){b:Nat}(k:Nat)(v:Value)(hb:w.heap.size≤b):Ext w (w'.setCell ⟨b,k,none⟩ v):=h.trans (Only.set (p:=fun i=>i=b) v rfl) (fun _ _ h=>h) (fun i hi e=>by omega)
theorem idx_take{ins:List B}{j:Nat}{s:B}(hq:ins[j]?=some s):decide (idx (fun y=>y==s) ins<(j:Int))=decide (s∈ins.take j):=by
 rw[decide_eq_decide];have hj:=(Q2 hq).1;obtain⟨k,hk⟩:∃k,ins.findIdx? (fun y=>y==s)=some k:=by
  cases h:ins.findIdx? (fun y=>y==s)with
  | some k=>exact⟨k,rfl⟩
  | none=>
   rw[List.findIdx?_eq_none_iff]at h;have:=h s (Q4 hq);simp at this
 obtain⟨h1,h2,h3⟩:=List.findIdx?_eq_some_iff_getElem.1 hk;have hi:idx (fun y=>y==s) ins=(k:Int):=by unfold idx;rw[hk]
 rw[hi];constructor
 ·intro h
  have h4:ins[k]=s:=beq_iff_eq.1 h2
  rw[List.mem_take_iff_getElem];exact⟨k,by omega,h4⟩
 ·intro h
  obtain⟨t,ht,e⟩:=List.mem_take_iff_getElem.1 h;refine Classical.byContradiction fun hn=>?_
  have:=h3 t (by omega)
  rw[e]at this;simp at this
theorem Zi0(w:World)(r:Rule)(u:Value)(hu:Rd S w u r.ins)(hs:Z3z 900000 r) :
  Calls Tryz.prog 101 #[AggR r u] w (RetE (IN (Z0q r)) w):=by
 obtain⟨ot,kd,wd,ins⟩:=r;have HU:Hid (Rd S w u ins):=Q0 hu;obtain⟨a,cap,rfl,hcap,hm,hc⟩:=hu;have h1:=fun W (s:B) (hs:s.length≤900000)=>Z3e W s (by omega)
 have h2:=fun W=>Z9r W kd wd ins.length (by have:=hs.word;exact this)
 have hol:ot.length≤900000:=hs.out;have hil:ins.length≤900000:=hs.many;have hx:∀s∈ins,s.length≤900000:=hs.ins;have hilz:(ins.length:Int)≤900000:=by omega
 have H1:=Q0 h1;have H2:=Q0 h2;have HC:=Q0 hc;have HX:=Q0 hx;have HOL:=Q0 hol;clear h1 h2 hc hx hol;have hb0:Ext w (w.alloc (.cells #[S ot,S kd,S wd,.slice a ins.length cap] 55 (0,0))):=Only.alloc _ _ _;have HB0:=Q0 hb0;clear hs hm hil hb0;unfold Z0q;simp only;have hC:=H1.out (w.alloc (.cells #[S ot,S kd,S wd,.slice a ins.length cap] 55 (0,0))) ot HOL.out;cases hp:Z0y ot with
 | false=>
  rw[if_pos rfl];rw[hp]at hC;have HCC:=Q0 hC;clear hC;clear hp;go_enter Tryz.func101,Tryz.ntmps101;go_wp2_with fail;refine(HCC.out).mono ?_;rintro e w1 ⟨rfl,ho⟩;have HO:=Q0 (HB0.out.then ho);clear ho;go_wp2_with fail;go_ret;exact⟨rfl,HO.out⟩
 | true=>
  rw[if_neg (by decide)]
  rw[hp]at hC;have HCC:=Q0 hC;clear hC;clear hp;cases hq:Z1b kd wd ins.length with
  | succ c=>
   rw[hq]at H2;rw[if_pos (Nat.succ_ne_zero _)];have hcz:(0:Int)<((c+1:Nat):Int):=by omega
   clear hq;go_enter Tryz.func101,Tryz.ntmps101;go_wp2_with fail;refine HCC.out.mono ?_;rintro e w1 ⟨rfl,ho⟩;obtain⟨bx,hbx⟩:∃b,b=w.heap.size:=⟨_,rfl⟩;have c0:=ho.cellOf ((Z00 (MapKept.heap_alloc w (.cells #[S ot,S kd,S wd,.slice a ins.length cap] 55 (0,0))).1 0).trans rfl) (fun h=>h)
   have c1:=ho.cellOf ((Z00 (MapKept.heap_alloc w (.cells #[S ot,S kd,S wd,.slice a ins.length cap] 55 (0,0))).1 1).trans rfl) (fun h=>h)
   have c2:=ho.cellOf ((Z00 (MapKept.heap_alloc w (.cells #[S ot,S kd,S wd,.slice a ins.length cap] 55 (0,0))).1 2).trans rfl) (fun h=>h)
   have c3:=ho.cellOf ((Z00 (MapKept.heap_alloc w (.cells #[S ot,S kd,S wd,.slice a ins.length cap] 55 (0,0))).1 3).trans rfl) (fun h=>h)
   rw[←hbx]at c0 c1 c2 c3;rw[←hbx];have HO:=Q0 (HB0.out.then ho);clear ho hbx HCC;go_wp2_with fail;refine(H2.out w1).mono ?_;rintro e w2 ⟨rfl,ho⟩;have HO2:=Q0 (HO.out.then ho);clear ho;go_wp2_with fail;go_ret;exact⟨rfl,HO2.out⟩
  | zero=>
   rw[hq]at H2;rw[if_neg (by simp)]
   obtain⟨R,hR⟩:∃R:Nat,R=if ins.all Z0y=false then 4 else if ot∈ins∨¬ins.Nodup then 7 else 0:=⟨_,rfl⟩
   rw[←hR];have HR:=Q0 hR;clear hq hR;go_enter Tryz.func101,Tryz.ntmps101;go_wp2_with fail;refine HCC.out.mono ?_;rintro e w1 ⟨rfl,ho⟩;obtain⟨bx,hbx⟩:∃b,b=w.heap.size:=⟨_,rfl⟩;have c0:=ho.cellOf ((Z00 (MapKept.heap_alloc w (.cells #[S ot,S kd,S wd,.slice a ins.length cap] 55 (0,0))).1 0).trans rfl) (fun h=>h)
   have c1:=ho.cellOf ((Z00 (MapKept.heap_alloc w (.cells #[S ot,S kd,S wd,.slice a ins.length cap] 55 (0,0))).1 1).trans rfl) (fun h=>h)
   have c2:=ho.cellOf ((Z00 (MapKept.heap_alloc w (.cells #[S ot,S kd,S wd,.slice a ins.length cap] 55 (0,0))).1 2).trans rfl) (fun h=>h)
   have c3:=ho.cellOf ((Z00 (MapKept.heap_alloc w (.cells #[S ot,S kd,S wd,.slice a ins.length cap] 55 (0,0))).1 3).trans rfl) (fun h=>h)
   rw[←hbx]at c0 c1 c2 c3;rw[←hbx];have HO:=Q0 (HB0.out.then ho);clear ho hbx HCC;go_wp2_with fail;refine(H2.out w1).mono ?_;rintro e w2 ⟨rfl,ho⟩;have e0:=ho.cellOf c0 (fun h=>h)
   have e3:=ho.cellOf c3 (fun h=>h)
   have HO2:=Q0 (HO.out.then ho);clear ho c0 c1 c2 c3;go_wp2_with fail;go_loopw [5,6] (fun i _ wr=>∃j:Nat,j≤ins.length∧i=.int .i64 j∧Hid (∀k s,k<j→ins[k]?=some s→Z0y s=true)∧Hid (Ext w2 wr)) (fun i _ _=>ins.length-(intOf i).toNat)
   case atStart=>exact⟨0,Nat.zero_le _,rfl,Q0 (fun k s h=>absurd h (Nat.not_lt_zero _)),Q0 (Only.refl _ _)⟩
   case round=>
    obtain⟨j,hj,rfl,HK,HX2⟩:=hrel;have f0:=HX2.out.cellOf e0 (fun h=>h)
    have f3:=HX2.out.cellOf e3 (fun h=>h)
    by_cases hlt:j<ins.length
    ·have hltz:(j:Int)<(ins.length:Int):=by omega
     obtain⟨b,off,rfl,hcell⟩:=HC.out (by intro h;rw[h]at hlt;simp at hlt)
     obtain⟨s,hq⟩:∃y,ins[j]?=some y:=⟨_,Q1 hlt⟩;have d0:=HX2.out.cellOf (HO2.out.cellOf (hcell j s hq) (fun h=>h)) (fun h=>h)
     have hC:=H1.out wr s (HX.out s (Q4 hq));have HQ:=Q0 hq;clear hcell hq;cases hps:Z0y s with
     | true=>
      rw[hps]at hC;have HC2:=Q0 hC;have HPS:=Q0 hps;clear hC hps;go_wp2_with fail;refine(HC2.out).mono ?_;rintro e w3 ⟨rfl,ho⟩;have HX3:=Q0 (HX2.out.then ho);clear ho;go_wp2_with fail;go_roundw
      case rel=>exact⟨j+1,by omega,by go_num,Q0 (fun k y hk hy=>by
       rcases Nat.lt_succ_iff_lt_or_eq.1 hk with h|rfl
       ·exact HK.out k y h hy
       ·rw[HQ.out]at hy;cases hy;exact HPS.out),HX3⟩
      case measure=>simp[intOf];omega
     | false=>
      rw[hps]at hC;have hall:ins.all Z0y=false:=by
       rw[List.all_eq_false];exact⟨s,Q4 HQ.out,by simp[hps]⟩
      have HC2:=Q0 hC;have HALL:=Q0 hall;clear hC hall;clear hps;go_wp2_with fail;refine(HC2.out).mono ?_;rintro e w3 ⟨rfl,ho⟩;have HX3:=Q0 (HO2.out.then (HX2.out.then ho));clear ho;go_wp2_with fail;go_ret;exact⟨by rw[HR.out,if_pos HALL.out];rfl,HX3.out⟩
    ·have hltz:¬(j:Int)<(ins.length:Int):=by omega
     have hall:ins.all Z0y=true:=by
      rw[List.all_eq_true];intro s hs;obtain⟨k,hk⟩:=List.getElem?_of_mem hs;exact HK.out k s (by have:=(Q2 hk).1;omega) hk
     have HO3:=Q0 (HO2.out.then HX2.out);have hR2:=HR.out;rw[hall,if_neg (by decide)]at hR2
     have HR2:=Q0 hR2;clear hall hlt HK e0 e3 HX2 hR2 HR;go_wp2_with fail;obtain⟨wo,rfl⟩:∃wo:World,wo=wr:=⟨_,rfl⟩;go_loopw [7] (fun i wq=>∃j:Nat,j≤ins.length∧i=.int .i64 j∧Hid (ot∉ins.take j∧(ins.take j).Nodup)∧Hid (Ext wo wq)) (fun i _=>ins.length-(intOf i).toNat)
     case atStart=>exact⟨0,Nat.zero_le _,rfl,Q0 ⟨by simp,by simp⟩,Q0 (Only.refl _ _)⟩
     case round=>
      obtain⟨j,hj,rfl,HK,HX2⟩:=hrel;have g0:=HX2.out.cellOf f0 (fun h=>h)
      have g3:=HX2.out.cellOf f3 (fun h=>h)
      by_cases hlt:j<ins.length
      ·have hltz:(j:Int)<(ins.length:Int):=by omega
       have hj0:(0:Int)≤(j:Int):=by omega
       have hjn:¬(j:Int)<0:=by omega
       have hjl:¬(ins.length:Int)≤(j:Int):=by omega
       obtain⟨b,off,rfl,hcell⟩:=HC.out (by intro h;rw[h]at hlt;simp at hlt)
       obtain⟨s,hq⟩:∃y,ins[j]?=some y:=⟨_,Q1 hlt⟩;have d0:=HX2.out.cellOf (HO3.out.cellOf (hcell j s hq) (fun h=>h)) (fun h=>h)
       have HQ:=Q0 hq;have HCT:=Q0 (fun n=>Z4q (wr.drewN n) _ ins s ((HU.out.ext (HO3.out.then HX2.out)).ext (Only.drewN _ _ n)))
       have hit:=idx_take hq;clear hcell hq;cases heq:s==ot with
       | true=>
        have hbad:ot∈ins∨¬ins.Nodup:=.inl (by rw[←beq_iff_eq.1 heq];exact Q4 HQ.out)
        have HBAD:=Q0 hbad;clear hbad hit HCT;go_wp2_with fail;go_quiet (fail);go_wp2_with fail;go_ret;exact⟨by rw[HR2.out,if_pos HBAD.out];rfl,HO3.out.then (HX2.out.thenDrewN _)⟩
       | false=>
        have hne:s≠ot:=beq_eq_false_iff_ne.1 heq;generalize idx (fun y=>y==s) ins=z at HCT hit
        by_cases hct:s∈ins.take j
        ·have hbad:ot∈ins∨¬ins.Nodup:=.inr fun h=>by
          obtain⟨k,hk⟩:=List.getElem?_of_mem hct;rw[List.getElem?_take]at hk;split at hk
          ·rename_i hkj
           have:=Z1r h hk HQ.out
           omega
          ·cases hk
         rw[decide_eq_true hct]at hit;have hzl:z<(j:Int):=of_decide_eq_true hit;have HBAD:=Q0 hbad;clear hbad hct hne hit;go_wp2_with fail;go_quiet ((go_at_call 89;exact Calls.quiet_of_same ((HCT.out _).mono fun _ _ h=>⟨h.1,h.2.symm⟩)))
         go_wp2_with fail;go_ret
         exact⟨by rw[HR2.out,if_pos HBAD.out];rfl,HO3.out.then (HX2.out.thenDrewN _)⟩
        ·have hnew:ot∉ins.take (j+1)∧(ins.take (j+1)).Nodup:=by
          refine⟨fun h=>?_,Zjo HQ.out HK.out.2 hct⟩
          rw[List.take_add_one,HQ.out]at h;rcases List.mem_append.1 h with h|h
          ·exact HK.out.1 h
          ·rw[Option.toList_some,List.mem_singleton]at h;exact hne h.symm
         rw[decide_eq_false hct]at hit;have hzl:¬z<(j:Int):=of_decide_eq_false hit;have HNEW:=Q0 hnew;clear hct hne hit hnew;go_wp2_with fail;go_quiet ((go_at_call 89;exact Calls.quiet_of_same ((HCT.out _).mono fun _ _ h=>⟨h.1,h.2.symm⟩)))
         go_wp2_with fail;go_roundw
         case rel=>exact⟨j+1,by omega,by go_num,HNEW,Q0 (HX2.out.thenDrewN _)⟩
         case measure=>simp[intOf];omega
      ·have hltz:¬(j:Int)<(ins.length:Int):=by omega
       have hend:R=0:=by
        rw[HR2.out];have hk:=HK.out;rw[List.take_of_length_le (by omega)]at hk
        exact if_neg (fun h=>h.elim hk.1 (fun h=>h hk.2))
       have HEND:=Q0 hend;clear hend;go_wp2_with fail;go_ret;exact⟨by rw[HEND.out];rfl,HO3.out.then HX2.out⟩
abbrev AggF(f:Nat×Int):Value:=.agg #[IN f.1,I f.2]
theorem Zaq(w:World)(c:Nat):Calls Tryz.prog 28 #[I c] w (RetE (AggF (c,-1)) w):=by
 go_enter Tryz.func28,Tryz.ntmps28
 go_wp2_with fail;refine bodyPost_ret (v:=AggF (c,-1)) ?_ rfl ⟨rfl,Only.alloc _ _ _⟩
 have hres:Tryz.f28.results = #[.cell 2 37]:=by kernel_rfl
 simp only[results,hres];go_simp
theorem Zi4(w:World):Calls Tryz.prog 102 #[] w (RetE (AggF (0,-1)) w):=by
 go_enter Tryz.func102,Tryz.ntmps102
 go_wp2_with fail;refine bodyPost_ret (v:=AggF (0,-1)) ?_ rfl ⟨rfl,Only.alloc _ _ _⟩
 have hres:Tryz.f102.results = #[.cell 0 37]:=by kernel_rfl
 simp only[results,hres];go_simp
theorem Z1y{w:World}{r:Nat}{x y:Value}{e:TypeId}{fr:Nat×Nat}(h:w.heap[r]?=some (.cells #[x,y] e fr))(u v:Value):((w.setCell ⟨r,0,none⟩ u).setCell ⟨r,1,none⟩ v).cell? ⟨r,0,none⟩=some u∧((w.setCell ⟨r,0,none⟩ u).setCell ⟨r,1,none⟩ v).cell? ⟨r,1,none⟩=some v:=by
 have h1:=Z01 h 0 u;have h2:=Z01 h1 1 v;exact⟨(Z00 h2 0).trans rfl,(Z00 h2 1).trans rfl⟩
structure Zjl(w wr:World):Prop where
 ext:Ext w wr
 cell:wr.heap[w.heap.size]?=some (.cells #[.int .i64 0,.int .i64 0] 37 (0,0))
theorem Zjl.grow{w wr w':World}(h:Zjl w wr)(ho:Ext wr w'):Zjl w w':=⟨h.ext.then ho,ho.heapOf h.cell (fun h=>h)⟩
theorem Z9d(w:World)(l:List Rule)(v:Value)(hv:RdR w v l)(hs:∀r∈l,Z3z 900000 r) :
  Calls Tryz.prog 25 #[v] w (RetE (AggF (Z04 l)) w):=by
 have HRD:=Q0 hv;obtain⟨a,cap,rfl,hcap,hml,hc⟩:=hv;have hlm:(l.length:Int)≤9223372036854775807:=by unfold maxLen at hml;omega
 have hcapz:(l.length:Int)≤(cap:Int):=by omega
 have HC:=Q0 hc;have HS:=Q0 hs;clear hc hs;obtain⟨F,hF⟩:∃F,F=Z04 l:=⟨_,rfl⟩;rw[←hF];have HF:=Q0 hF;have HR0:Hid (Zjl w (w.alloc (.cells #[.int .i64 0,.int .i64 0] 37 (0,0)))):=Q0 ⟨Only.alloc _ _ _,(MapKept.heap_alloc w _).1⟩;clear hF;by_cases h40:40<l.length
 ·have hz:(40:Int)<(l.length:Int):=by omega
  have HF2:Hid (F=(2,-1)):=Q0 (by rw[HF.out];exact if_pos h40)
  clear h40;go_enter Tryz.func25,Tryz.ntmps25;go_wp2_with fail;refine(Zaq _ 2).mono ?_;rintro e w1 ⟨rfl,ho⟩;have hr1:=HR0.out.grow ho;have f0:=Z02 hr1.cell 0;have f1:=Z02 hr1.cell 1;have r0:=(Z00 hr1.cell 0).trans (rfl:_=some (Value.int .i64 0));have r1:=(Z00 hr1.cell 1).trans (rfl:_=some (Value.int .i64 0));have HX1:=Q0 hr1.ext;have HRC:=Q0 hr1.cell;clear ho hr1 HR0;go_wp2_with fail;refine bodyPost_ret (v:=AggF F) ?_ rfl ⟨rfl,Z1d (Z1d HX1.out _ _ (Nat.le_refl _)) _ _ (Nat.le_refl _)⟩;have hres:Tryz.f25.results = #[.cell 2 37]:=by kernel_rfl
  have rc:=fun u v=>Z1y HRC.out u v
  have rc0:=fun u v=>(rc u v).1
  have rc1:=fun u v=>(rc u v).2
  rw[HF2.out];clear rc;simp only[results,hres];go_simp
 ·have hz:¬(40:Int)<(l.length:Int):=by omega
  have hl40:l.length≤40:=by omega
  clear h40;go_enter Tryz.func25,Tryz.ntmps25;go_wp2_with fail;go_loopw [3,4,5] (fun i _ _ wr=>∃j:Nat,j≤l.length∧i=.int .i64 j∧Hid (Z33 l j)∧Hid (Zjl w wr)) (fun i _ _ _=>l.length-(intOf i).toNat)
  case atStart=>exact⟨0,Nat.zero_le _,rfl,Q0 (Z33.zero l),HR0⟩
  case round=>
   clear HR0;obtain⟨j,hj,rfl,HR,HX⟩:=hrel;by_cases hlt:j<l.length
   ·have hltz:(j:Int)<(l.length:Int):=by omega
    have hj0:(0:Int)≤(j:Int):=by omega
    have hjn:¬(j:Int)<0:=by omega
    have hjl:¬(l.length:Int)≤(j:Int):=by omega
    obtain⟨b,off,rfl,hcell⟩:=HC.out (by intro h;rw[h]at hlt;simp at hlt)
    have HCELL:=Q0 hcell;obtain⟨r,hq⟩:∃y,l[j]?=some y:=⟨_,Q1 hlt⟩;obtain⟨u,hu,c0,c1,c2,c3⟩:=hcell j r hq;have d0:=HX.out.ext.cellOf c0 (fun h=>h)
    have d1:=HX.out.ext.cellOf c1 (fun h=>h)
    have d2:=HX.out.ext.cellOf c2 (fun h=>h)
    have d3:=HX.out.ext.cellOf c3 (fun h=>h)
    have HC0:=Q0 c0;have HRE:=Q0 (Zi0 wr r u (hu.ext HX.out.ext) (HS.out r (Q4 hq)));have HFL:=Q0 (HR.out.fault hl40 hq);have HQ:=Q0 hq;have HLT:=Q0 hlt;obtain⟨au,cu,hua,_,_,_⟩:=hu;generalize hun:r.ins.length=n at hua;clear hcell hq c0 c1 c2 c3 hun hlt;subst hua;cases hrc:Z0q r with
    | succ c=>
     rw[hrc]at HRE;rw[hrc,if_pos (Nat.succ_ne_zero _)]at HFL;have HF2:Hid (F=(c+1,(j:Int))):=Q0 (by rw[HF.out];exact HFL.out)
     have hcz:((c+1:Nat):Int)≠0:=by omega
     have hcb:(((c+1:Nat):Int)==0)=false:=Q3 hcz
     have hcp:(0:Int)<((c+1:Nat):Int):=by omega
     clear hrc HFL;go_wp2_with fail;refine HRE.out.mono ?_;rintro e w2 ⟨rfl,ho⟩;have HX2:=Q0 (HX.out.grow ho);clear ho d0 d1 d2 d3;go_wp2_with fail;go_loopw [4,5] (fun e i wy=>e=IN (c+1)∧i=.int .i64 0∧wy=w2) (fun _ _ _=>0)
     case atStart=>exact⟨rfl,rfl,rfl⟩
     case round=>
      obtain⟨rfl,rfl,hw⟩:=hrel;subst hw;have HRC:=Q0 HX2.out.cell;have f0:=Z02 HX2.out.cell 0;have f1:=Z02 HX2.out.cell 1;have r0:=(Z00 HX2.out.cell 0).trans (rfl:_=some (Value.int .i64 0));have r1:=(Z00 HX2.out.cell 1).trans (rfl:_=some (Value.int .i64 0));by_cases hj1:(0:Int)<(j:Int)
      all_goals
       go_wp2_with fail;refine bodyPost_ret (v:=AggF F) ?_ rfl ⟨rfl,Z1d (Z1d HX2.out.ext _ _ (Nat.le_refl _)) _ _ (Nat.le_refl _)⟩
       have hres:Tryz.f25.results = #[.cell 2 37]:=by kernel_rfl
       have rc:=fun u v=>Z1y HRC.out u v
       have rc0:=fun u v=>(rc u v).1
       have rc1:=fun u v=>(rc u v).2
       rw[HF2.out];clear rc;simp only[results,hres];go_simp
    | zero=>
     rw[hrc]at HRE;rw[hrc,if_neg (by simp)]at HFL
     have HRC:=Q0 hrc;clear hrc;go_wp2_with fail;refine HRE.out.mono ?_;rintro e w2 ⟨rfl,ho⟩;have HX2:=Q0 (HX.out.grow ho);clear ho d0 d1 d2 d3 HX;go_wp2_with fail;go_loopw [4,5] (fun e i wy=>∃(k:Nat)(b:Bool),k≤j∧e=IN (if b then 7 else 0)∧i=.int .i64 k∧Hid (b=decide (r.out∈(l.take k).map Rule.out))∧Hid (Zjl w wy)) (fun _ i _=>j-(intOf i).toNat)
     case atStart=>exact⟨0,false,Nat.zero_le _,rfl,rfl,Q0 (by simp),HX2⟩
     case round=>
      clear HX2;obtain⟨k,b1,hk,rfl,rfl,HB,HX2⟩:=hrel;cases b1 with
      | true=>
       have hm:r.out∈(l.take j).map Rule.out:=by
        have:=of_decide_eq_true HB.out.symm
        obtain⟨x,hx,e⟩:=List.mem_map.1 this;exact List.mem_map.2 ⟨x,(List.take_sublist_take_left hk).subset hx,e⟩
       have HF2:Hid (F=(7,(j:Int))):=Q0 (by rw[HF.out,HFL.out,if_pos hm])
       have HRC:=Q0 HX2.out.cell;have f0:=Z02 HX2.out.cell 0;have f1:=Z02 HX2.out.cell 1;have r0:=(Z00 HX2.out.cell 0).trans (rfl:_=some (Value.int .i64 0));have r1:=(Z00 HX2.out.cell 1).trans (rfl:_=some (Value.int .i64 0));have hkj:¬(j:Int)<(k:Int):=by omega
       clear hm;by_cases hkl:(k:Int)<(j:Int)
       all_goals
        go_wp2_with fail;refine bodyPost_ret (v:=AggF F) ?_ rfl ⟨rfl,Z1d (Z1d HX2.out.ext _ _ (Nat.le_refl _)) _ _ (Nat.le_refl _)⟩
        have hres:Tryz.f25.results = #[.cell 2 37]:=by kernel_rfl
        have rc:=fun u v=>Z1y HRC.out u v
        have rc0:=fun u v=>(rc u v).1
        have rc1:=fun u v=>(rc u v).2
        rw[HF2.out];clear rc;simp only[results,hres];go_simp
      | false=>
       by_cases hkl:k<j
       ·have hkz:(k:Int)<(j:Int):=by omega
        have hk0:(0:Int)≤(k:Int):=by omega
        have hk1:¬(k:Int)<0:=by omega
        have hk2:¬(l.length:Int)≤(k:Int):=by have:=HLT.out;omega
        have hk3:(k:Int)<(l.length:Int):=by have:=HLT.out;omega
        obtain⟨r2,hq2⟩:∃y,l[k]?=some y:=⟨_,Q1 (by have:=HLT.out;omega)⟩
        obtain⟨u2,_,e0,_⟩:=HCELL.out k r2 hq2;have d0:=HX2.out.ext.cellOf e0 (fun h=>h)
        have d1:=HX2.out.ext.cellOf HC0.out (fun h=>h)
        have HKL:=Q0 hkl;have HTK:Hid ((l.take (k+1)).map Rule.out=(l.take k).map Rule.out++[r2.out]):=Q0 (by rw[List.take_add_one,hq2];simp)
        have hnb:r.out∉(l.take k).map Rule.out:=of_decide_eq_false HB.out.symm;have HNB:=Q0 hnb;clear hq2 e0 hkl hnb;cases heq:r2.out==r.out with
        | true=>
         have HB2:Hid (true=decide (r.out∈(l.take (k+1)).map Rule.out)):=Q0 (by
          rw[decide_eq_true];rw[HTK.out,←beq_iff_eq.1 heq];simp)
         go_wp2_with fail;go_quiet (fail)
         go_wp2_with fail;go_roundw
         case rel=>exact⟨k+1,true,HKL.out,rfl,by go_num,HB2,Q0 (HX2.out.grow (Only.drewN _ _ _))⟩
         case measure=>have:=HKL.out;simp[intOf];omega
        | false=>
         have HB2:Hid (false=decide (r.out∈(l.take (k+1)).map Rule.out)):=Q0 (by
          rw[decide_eq_false];rw[HTK.out];intro hm;rcases List.mem_append.1 hm with hm|hm
          ·exact HNB.out hm
          ·rw[List.mem_singleton]at hm
           exact beq_eq_false_iff_ne.1 heq hm.symm)
         go_wp2_with fail;go_quiet (fail)
         go_wp2_with fail;go_roundw
         case rel=>exact⟨k+1,false,HKL.out,rfl,by go_num,HB2,Q0 (HX2.out.grow (Only.drewN _ _ _))⟩
         case measure=>have:=HKL.out;simp[intOf];omega
       ·have hkz:¬(k:Int)<(j:Int):=by omega
        obtain rfl:k=j:=by omega
        have hm:r.out∉(l.take k).map Rule.out:=of_decide_eq_false HB.out.symm;have HN:=Q0 (HR.out.next HQ.out HRC.out hm);clear hm;go_wp2_with fail;go_roundw
        case rel=>exact⟨k+1,HLT.out,by go_num,HN,HX2⟩
        case measure=>have:=HLT.out;simp[intOf];omega
   ·have hltz:¬(j:Int)<(l.length:Int):=by omega
    obtain rfl:j=l.length:=by omega
    have HF2:Hid (F=(0,-1)):=Q0 (by rw[HF.out];exact HR.out.all hl40)
    go_wp2_with fail;refine(Zi4 _).mono ?_
    rintro e w1 ⟨rfl,ho⟩;have hr1:=HX.out.grow ho;have f0:=Z02 hr1.cell 0;have f1:=Z02 hr1.cell 1;have r0:=(Z00 hr1.cell 0).trans (rfl:_=some (Value.int .i64 0));have r1:=(Z00 hr1.cell 1).trans (rfl:_=some (Value.int .i64 0));have HX1:=Q0 hr1.ext;have HRC:=Q0 hr1.cell;clear ho hr1 HX;go_wp2_with fail;refine bodyPost_ret (v:=AggF F) ?_ rfl ⟨rfl,Z1d (Z1d HX1.out _ _ (Nat.le_refl _)) _ _ (Nat.le_refl _)⟩;have hres:Tryz.f25.results = #[.cell 2 37]:=by kernel_rfl
    have rc:=fun u v=>Z1y HRC.out u v
    have rc0:=fun u v=>(rc u v).1
    have rc1:=fun u v=>(rc u v).2
    rw[HF2.out];clear rc;simp only[results,hres];go_simp
theorem code_at(w:World)(P:Nat→Addr)(hs:Sents w P)(v:Value)(f:Nat×Int)(he:Z25 w P f v)(h12:f.1≤12)(h0:f.1=0→f.2=-1):∀w1,Ext w w1→Calls Tryz.prog 96 #[v] w1 (Zho w1 (f.1:Int) f.2):=fun w1 hx=>by
 rcases he with⟨e0,rfl⟩|⟨e0,e1,rfl⟩|⟨e0,_,b,rfl,hb⟩
 ·have:=code_nil w1
  rw[h0 e0,e0];exact this
 ·have hi:f.1-1<12:=by omega
  have hs1:=hs.ext hx;obtain⟨c,t,hr⟩:=hs1.row (f.1-1) hi;have h:=code_err w1 P hs1 (P (f.1-1)) (f.1-1) (by omega) (fun _=>rfl) (fun j hj hne e=>hne (hs1.apart j (f.1-1) hj hi e)) c t hr
  rw[if_pos hi,show ((f.1-1:Nat):Int)+1=(f.1:Int) by omega]at h
  rw[e1];exact h
 ·have hb1:=hx.heapOf hb (fun h=>h)
  have h:=Zn6 w1 P (hs.ext hx) b (f.1-1) f.2 (by omega) ((Z00 hb1 0).trans rfl) ((Z00 hb1 1).trans rfl)
  rw[show ((f.1-1:Nat):Int)+1=(f.1:Int) by omega]at h
  exact h
theorem Zlb{ops:Array Oper}{o:Oper}{a:Act}{K:Act→World→Prop}{Q:Exit→Act→World→Prop}{E:Prop}(s x:Operand)(base base0:Nat)(vs:Value)(k:FL)(W:World)(hgd:o.guard=none)
  (ho:o.op=.call { callee:=.builtin .append,args:=#[s,x],argTypes:=#[22,22] }) (hs:a.eval s=.slice none 0 0) (hx:a.eval x=vs)
  (hrow:W.ownsRow base0 65 2 vs k.length (k.flatMap encF)) (hl:k.length≤1000000) (hbase:base≤W.heap.size)
  (hK:∀ao n c w',w'.ownsRow base 65 2 (.slice ao n c) k.length (k.flatMap encF)→Ext W w'→(∀i,Value.ownBlock (.slice ao n c)=some i→W.heap.size≤i)→K (a.put o.dst (.slice ao n c)) w') :
  if Region.wanted o (yielded ops a.tmps)=true then Oper.wp Tryz.prog o a W K Q else E:=by
 have hw:Region.wanted o (yielded ops a.tmps)=true:=by simp[Region.wanted,hgd]
 rw[if_pos hw];obtain⟨i0,hi,hz0,hz1,hz2⟩:=info_parts Z2h;have hrd:=RdS.of_row Z1k hrow;obtain⟨ao,c,rfl,_,_,hc⟩:=hrd;have hform:∀{W':World} {v':Value} {n':Nat} {xs:List Value},W'.ownsRow base 65 2 v' n' xs→∃ao' cap,v'=.slice ao' n' cap:=fun h=>by
  rcases h.2 with⟨rfl,rfl⟩|⟨g,cap,_,rfl,_⟩
  ·exact⟨none,0,rfl⟩
  ·exact⟨_,cap,rfl⟩
 by_cases hk:k=[]
 ·subst hk
  have hv:(Value.slice ao ([]:FL).length c)=.slice none 0 0∨∃ad,ao=some ad:=by
   cases ao with
   | none=>
    rcases hrow.2 with⟨h1,_⟩|⟨g,cap,_,h1,_⟩
    ·exact .inl h1
    ·cases h1
   | some ad=>exact .inr ⟨ad,rfl⟩
  rcases hv with hv|⟨ad,rfl⟩
  ·rw[hv]at hx
   have hrun:=run_append_owned_none (P:=Tryz.prog) (w:=W) base 22 o.type 65 i0 2 Tryz.underlying22 hi (.slice none 0 0) 0 [] (World.ownsRow_nil _ _ _ _);unfold Oper.wp;simp[execOp,ho,resolve,invoke,builtin,hs,hx,hrun,Result.andThen];exact hK _ _ _ _ (World.ownsRow_nil _ _ _ _) (Only.refl _ _) (fun i h=>by cases h)
  ·obtain⟨v',w',hr,h2,h3,_,h5⟩:=run_append_own_at (P:=Tryz.prog) W base 22 o.type 65 i0 _ 2 32 Tryz.underlying22 hi hz0 hz1 hz2 rfl (by decide) (.slice none 0 0) 0 [] (World.ownsRow_nil _ _ _ _) ad 0 c [] rfl (fun j u h=>by simp at h) (fun u h=>by cases h) (by decide) (by decide) hbase
   obtain⟨ao',cap,rfl⟩:=hform h2;unfold Oper.wp execOp;simp only[List.length_nil]at hx;simp only[ho,resolve,invoke,builtin,Sem.run_bind,Sem.run_pure,Result.andThen_ok,List.map_toArray,List.map_cons,List.map_nil,hs,hx,hr];refine hK _ _ _ _ h2 (Z49 (Only.refl _ _) (fun i h=>by cases h) h3) (fun i hi'=>?_)
   rcases h5 with h5|h5
   ·rw[h5]at hi';cases hi'
   ·rw[h5]at hi';have:=Option.some.inj hi';omega
 ·obtain⟨b,off,rfl,hcell⟩:=hc hk
  have h1:∀u∈k.flatMap encF,u.oneCell'=true:=fun u hu=>by
   obtain⟨y,_,hy⟩:=List.mem_flatMap.1 hu;exact Z2i y u hy
  have hcells:∀j u,(k.flatMap encF)[j]?=some u→W.cell? ((⟨b,off,none⟩:Addr).add j)=some u:=by
   have:=Zdu hcell (Only.refl _ W) 0 k.length
   simpa using this
  obtain⟨v',w',hr,h2,h3,_,h5⟩:=run_append_own_at (P:=Tryz.prog) W base 22 o.type 65 i0 _ 2 32 Tryz.underlying22 hi hz0 hz1 hz2 rfl (by decide) (.slice none 0 0) 0 [] (World.ownsRow_nil _ _ _ _) ⟨b,off,none⟩ k.length c (k.flatMap encF) (Z8b Z1k k) hcells h1 (by unfold maxLen;omega) (by omega) hbase
  obtain⟨ao',cap,rfl⟩:=hform h2;unfold Oper.wp execOp;simp only[ho,resolve,invoke,builtin,Sem.run_bind,Sem.run_pure,Result.andThen_ok,List.map_toArray,List.map_cons,List.map_nil,hs,hx,hr];refine hK _ _ _ _ (by simpa using h2) (Z49 (Only.refl _ _) (fun i h=>by cases h) h3) (fun i hi'=>?_)
  rcases h5 with h5|h5
  ·rw[h5]at hi';cases hi'
  ·rw[h5]at hi';have:=Option.some.inj hi';omega
def RetCopy(L:FL)(w:World)(e:Ending)(w':World):Prop:=∃slv',e=.returned (.pointer (some ⟨w.heap.size,0,none⟩))∧Z20 w' w.heap.size w.heap.size slv' L∧Ext w w'
theorem Zh9(w:World)(base m:Nat)(slv:Value)(L:FL)(h:Z20 w base m slv L)(hl:L.length≤1000000) :
  Calls Tryz.prog 29 #[.pointer (some ⟨m,0,none⟩)] w (RetCopy L w):=by
 have hm:=Z03 h.cells;have hm2:¬m=w.heap.size:=by omega
 have HT:=Q0 h;have hx0:Ext w (w.alloc (.cells #[.slice none 0 0] 147 (0,0))):=Only.alloc _ _ _;have HX0:=Q0 hx0;have hb0:=(MapKept.heap_alloc w (.cells #[.slice none 0 0] 147 (0,0))).1;have HB0:=Q0 hb0;have c0:=HX0.out.cellOf ((Z00 h.cells 0).trans (rfl:_=some slv)) (fun h=>h)
 have c1:=(Z00 hb0 0).trans (rfl:_=some (Value.slice none 0 0));have HL:=Q0 hl;clear h hm hx0 hb0 hl hm2;go_enter Tryz.func29,Tryz.ntmps29;go_wp2_with fail;go_region_law (refine Zlb (.tmp 10) (.tmp 14) w.heap.size base slv L _ rfl rfl rfl rfl (HT.out.ext (HX0.out.then (by first|exact Only.drew _ _|exact Only.refl _ _))).row HL.out (by simp) ?_;intro ao5 n5 c5 w5 ho5 hx5 hn5;have he5:Ext (w.alloc (.cells #[.slice none 0 0] 147 (0,0))) w5:=(Only.drew _ _).then hx5;have hb5:=he5.heapOf HB0.out (fun h=>h);have q6:w5.cell? ⟨w.heap.size,0,none⟩=some (.slice none 0 0):=(Z00 hb5 0).trans rfl;have q7:w5.frozen? ⟨w.heap.size,0,none⟩=false:=Z02 hb5 0;have HO5:=Q0 ho5;have HE5:=Q0 he5;have HB5:=Q0 hb5;have HN5:=Q0 hn5;clear ho5 hx5 he5 hb5 hn5)
 all_goals
  go_wp2_with fail;go_ret
  exact⟨.slice ao5 n5 c5,rfl,⟨(Z01 HB5.out 0 _).trans (by simp),(Only.set (p:=fun i=>i=w.heap.size) (w:=w5) (a:=⟨w.heap.size,0,none⟩) (.slice ao5 n5 c5) rfl).row HO5.out (fun i e e1=>by have:=HN5.out i e;simp at this;omega)⟩,(HX0.out.then HE5.out).thenSet _ (.inr (Nat.le_refl _))⟩
end Go.Proofs.YtnmhaipjfpongacGreatDoor
