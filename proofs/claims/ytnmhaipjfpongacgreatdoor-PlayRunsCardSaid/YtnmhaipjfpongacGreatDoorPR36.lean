/- A part of this claim's proof;each theorem bears its own conditions. -/
import Derived.Test.YtnmhaipjfpongacGreatDoorPR32
import Derived.Test.YtnmhaipjfpongacGreatDoorPR33
import Derived.Test.YtnmhaipjfpongacGreatDoorPR35
set_option maxRecDepth 100000
set_option maxHeartbeats 8000000
namespace Go.Proofs.YtnmhaipjfpongacGreatDoor
open Go.ChangeShapes Go.WideShapes Go.ChangeAt Go.RowKit
section
variable {w0 w w':World}{E:BE}{K:MK}{s:BS}{o:List Nat}{is:Nat→Bool}
theorem Zaj(s:BS)(i x k:Nat):(setP s i x).st k=if k=i then x else s.st k:=rfl
theorem Zee{i x:Nat}(h1:s.st i=1):(Z1w E s i).st x=2↔s.st x=2:=by
 unfold Z1w;rcases Z4k (E:=E) (s:=setP s i 3) x with⟨_,h,h2⟩|⟨_,h⟩
 ·rw[Zaj]at h2
  rw[h];by_cases e:x=i
  ·rw[if_pos e]at h2;omega
  ·rw[if_neg e]at h2;omega
 ·rw[h,Zaj]
  by_cases e:x=i
  ·rw[if_pos e,e];omega
  ·rw[if_neg e]
theorem Zed{i x:Nat}:(Z1w E s i).st x=3↔x=i∨s.st x=3:=by
 unfold Z1w;rcases Z4k (E:=E) (s:=setP s i 3) x with⟨_,h,h2⟩|⟨_,h⟩
 ·rw[Zaj]at h2
  rw[h];by_cases e:x=i
  ·rw[if_pos e]at h2;omega
  ·rw[if_neg e]at h2;omega
 ·rw[h,Zaj]
  by_cases e:x=i
  ·rw[if_pos e];simp[e]
  ·rw[if_neg e];simp[e]
theorem Zon{i:Nat}(h1:s.st i=1)(x:Nat):outM E (Z1w E s i) x=outM E s x:=by
 unfold outM;by_cases hx:x∈E.sm
 ·rw[Z1z hx,Z1z hx]
  by_cases h2:s.st x=2
  ·rw[if_pos ((Zee h1).2 h2),if_pos h2]
  ·rw[if_neg (fun e=>h2 ((Zee h1).1 e)),if_neg h2]
 ·rw[Z3u hx,Z3u hx]
theorem Zp9{i:Nat}(h1:s.st i=1)(x:Nat):hitM E (Z1w E s i) x=hitM E s x:=by
 unfold hitM;by_cases hx:x∈E.sm
 ·rw[Z1z hx,Z1z hx]
  have e:((Z1w E s i).st x==2)=(s.st x==2):=by
   rw[Bool.eq_iff_iff,beq_iff_eq,beq_iff_eq];exact Zee h1
  rw[e];rfl
 ·rw[Z3u hx,Z3u hx];rfl
theorem Znj{i:Nat}(hi:i∈E.sm)(x:Nat):whyM E (Z1w E s i) x=if x=i then(E.ans i).2 else whyM E s x:=by
 unfold whyM;by_cases e:x=i
 ·subst e
  rw[if_pos rfl,Z1z hi,if_pos ((Zed).2 (.inl rfl))]
 ·rw[if_neg e]
  by_cases hx:x∈E.sm
  ·rw[Z1z hx,Z1z hx]
   by_cases h3:s.st x=3
   ·rw[if_pos ((Zed).2 (.inr h3)),if_pos h3]
   ·rw[if_neg (fun e2=>((Zed).1 e2).elim e h3),if_neg h3]
  ·rw[Z3u hx,Z3u hx]
theorem FOk.le{t:BS}{g:Nat→Nat}(h:FOk E t g)(hl:∀x,mst E t x≤4)(x:Nat):g x≤4:=by
 rcases h x with e|⟨_,e,_⟩
 ·rw[e];exact hl x
 ·omega
theorem Zin{i:Nat}(hi:i∈E.sm)(x k:Nat):mst E (setP s i x) k=if k=i then x else mst E s k:=by
 unfold mst;rw[Zaj];by_cases e:k=i
 ·subst e;rw[if_pos hi,if_pos rfl,if_pos rfl]
 ·rw[if_neg e];rw[if_neg e]
def Zhn(w0 w:World)(E:BE)(K:MK)(s:BS)(e:Ending)(w':World):Prop:=e=.returned (.tuple #[])∧Z2x w0 w' E K s∧Only (InM K) w w'
theorem Zpg(h:Z2x w0 w E K s)(hW:Z0w E o is)(hI:BInv E s){i:Nat}(hi:i∈E.sm)(h1:s.st i=1)(c:Nat)(hc:(E.ans i).2=c) :
  Calls Tryz.prog 128 #[PTR K.b,I i,I c] w (Zhn w0 w E K (Z1w E s i)):=by
 have hin:=hW.lt i hi;have hl40:=hW.right.1;have hlz:(E.l.length:Int)≤40:=by omega
 have hiz:(i:Int)<(E.l.length:Int):=by omega
 have hi0:(0:Int)≤(i:Int):=by omega
 have hi1:¬(i:Int)<0:=by omega
 have hi2:¬(E.l.length:Int)≤(i:Int):=by omega
 have HLT:=Q0 hW.lt;have HIN:=Q0 hin;have hle:∀x,mst E (setP s i 3) x≤4:=fun x=>by
  rw[Zin hi];split
  ·omega
  ·exact Z73 hI x
 have HLE:=Q0 hle;obtain⟨hA,ho1⟩:=h.setSt i 3 (g':=mst E (setP s i 3)) (fun x=>Zin hi 3 x)
 obtain⟨hB,ho2⟩:=hA.setWh i c (wh':=whyM E (Z1w E s i)) (fun x=>by rw[Znj hi x,hc])
 have hB':=hB.congr (fun _ _=>rfl) (fun x _=>(Zon h1 x).symm) (fun x _=>(Zp9 h1 x).symm) (fun _ _=>rfl)
 have HRD:=Q0 (fun(wr:World) (f:Nat→Nat) (hm:MAt w0 wr E K f (outM E (Z1w E s i)) (hitM E (Z1w E s i)) (whyM E (Z1w E s i)))=>hm.rd)
 have HFE:Hid (∀g,FOk E (setP s i 3) g→Closed1 E.l.length (Z07 E.l) g→∀x,g x=mst E (Z1w E s i) x):=Q0 (fun g h1 h2=>fok_end hW.lt h1 h2)
 have HF0:Hid (mst E (setP s i 3) i≠1):=Q0 (by rw[Zin hi,if_pos rfl];omega)
 have HB2:=Q0 hB';have HO2:=Q0 (ho1.then ho2);have c2:=(h.cell 2).trans (rfl:_=some (TabS K.st E.l.length));have c5:=(hA.cell 5).trans (rfl:_=some (TabS K.wh E.l.length));have t0:=h.tab.st.cell hin;have f0:=h.tab.st.free i;have t5:=hA.tab.wh.cell hin;have f5:=hA.tab.wh.free i;obtain⟨ou,hou⟩:∃ou,ou=outM E (Z1w E s i):=⟨_,rfl⟩;obtain⟨hi',hhi⟩:∃hi',hi'=hitM E (Z1w E s i):=⟨_,rfl⟩;obtain⟨wh,hwh⟩:∃wh,wh=whyM E (Z1w E s i):=⟨_,rfl⟩;rw[←hou,←hhi,←hwh]at HB2 HRD;have HOU:=Q0 hou;have HHI:=Q0 hhi;have HWH:=Q0 hwh;have e3:Z0d 3=[102,97,105,108,101,100]:=rfl;rw[e3]at HB2 HO2 c5 t5 f5;obtain⟨wB,hwB⟩:∃wB,wB=((w.setCell ⟨K.st,i,none⟩ (S [102,97,105,108,101,100])).setCell ⟨K.wh,i,none⟩ (IN c)):=⟨_,rfl⟩;rw[←hwB]at HB2 HO2;have HWB:=Q0 hwB;generalize Z0d (mst E s i)=sv at t0;clear h hW hI hi hin hle hA ho1 hB ho2 hB' hou hhi hwh hc h1 e3 hwB;go_enter Tryz.func128,Tryz.ntmps128;go_wp2_with fail;rw[show ((w.setCell ⟨K.st,i,none⟩ (.string ⟨#[102,97,105,108,101,100]⟩)).setCell ⟨K.wh,i,none⟩ (.int .i64 (c:Int)))=wB from HWB.out.symm]
 clear c2 c5 t0 f0 t5 f5;go_loopw [6,7,8,9] (fun r _ _ _ wr=>∃(t:Nat)(f:Nat→Nat),t≤E.l.length∧r=.int .i64 t∧Hid (MAt w0 wr E K f ou hi' wh)∧Hid (Only (InM K) w wr)∧Hid (FRds E.l.length (Z07 E.l) (mst E (setP s i 3)) f t)∧Hid (FOk E (setP s i 3) f)) (fun r _ _ _ _=>E.l.length-(intOf r).toNat)
 case atStart=>exact⟨0,_,Nat.zero_le _,rfl,HB2,HO2,Q0 (FRds.start _ _ _),Q0 (FOk.start _ _)⟩
 case round=>
  clear HB2 HO2;obtain⟨t,f,ht,rfl,HM,HO,HRS,HOK⟩:=hrel;have d1:=(HM.out.cell 1).trans (rfl:_=some (Value.slice K.la E.l.length K.lc));by_cases htl:t<E.l.length
  ·have htz:(t:Int)<(E.l.length:Int):=by omega
   have HTL:=Q0 htl;clear htl ht;go_wp2_with fail;clear d1;go_loopw [7,8,9] (fun r _ _ wr=>∃(u:Nat)(g:Nat→Nat),u≤E.l.length∧r=.int .i64 u∧Hid (MAt w0 wr E K g ou hi' wh)∧Hid (Only (InM K) w wr)∧Hid (FRnd E.l.length (Z07 E.l) f g u 0)∧Hid (FOk E (setP s i 3) g)) (fun r _ _ _=>E.l.length-(intOf r).toNat)
   case atStart=>exact⟨0,f,Nat.zero_le _,rfl,HM,HO,Q0 (FRnd.start _ _ _),HOK⟩
   case round=>
    clear HM HO HOK;obtain⟨u,g,hu,rfl,HM,HO,HRN,HOK⟩:=hrel;have d1:=(HM.out.cell 1).trans (rfl:_=some (Value.slice K.la E.l.length K.lc));by_cases hul:u<E.l.length
    ·have huz:(u:Int)<(E.l.length:Int):=by omega
     have hu0:(0:Int)≤(u:Int):=by omega
     have hu1:¬(u:Int)<0:=by omega
     have hu2:¬(E.l.length:Int)≤(u:Int):=by omega
     have HUL:=Q0 hul;clear hul hu;go_wp2_with fail;clear d1;go_loopw [8,9] (fun r _ wr=>∃(v:Nat)(g:Nat→Nat),v≤E.l.length∧r=.int .i64 v∧Hid (MAt w0 wr E K g ou hi' wh)∧Hid (Only (InM K) w wr)∧Hid (FRnd E.l.length (Z07 E.l) f g u v)∧Hid (FOk E (setP s i 3) g)) (fun r _ _=>E.l.length-(intOf r).toNat)
     case atStart=>exact⟨0,g,Nat.zero_le _,rfl,HM,HO,HRN,HOK⟩
     case round=>
      clear HM HO HRN HOK;obtain⟨v,g,hv,rfl,HM,HO,HRN,HOK⟩:=hrel;have d1:=(HM.out.cell 1).trans (rfl:_=some (Value.slice K.la E.l.length K.lc));by_cases hvl:v<E.l.length
      ·have hvz:(v:Int)<(E.l.length:Int):=by omega
       have hv0:(0:Int)≤(v:Int):=by omega
       have hv1:¬(v:Int)<0:=by omega
       have hv2:¬(E.l.length:Int)≤(v:Int):=by omega
       have HVL:=Q0 hvl;have d2:=(HM.out.cell 2).trans (rfl:_=some (TabS K.st E.l.length));have b3:=Zdi (HOK.out.le HLE.out v);have b4:=Zhs (HOK.out.le HLE.out v);have bk:=Z4j (HOK.out.le HLE.out u);have tv:=HM.out.tab.st.cell hvl;have tu:=HM.out.tab.st.cell HUL.out;have HNR:=Q0 (fun(w1:World) (hx:Ext wr w1)=>Z40 w1 _ E.l u v HUL.out hvl ((HRD.out wr g HM.out).ext hx))
       clear hvl hv;by_cases h3:g v=3
       ·rw[show (g v==3)=true from beq_iff_eq.2 h3]at b3
        have hge:3≤g v:=by omega
        clear b4;by_cases h1:g u=1
        ·rw[show (g u==1)=true from beq_iff_eq.2 h1]at bk
         cases hn:Z07 E.l u v with
         | false=>
          have HSK:Hid (¬(g u=1∧3≤g v∧Z07 E.l u v=true)):=Q0 (fun h=>by rw[hn]at h;cases h.2.2)
          rw[hn]at HNR;clear h3 h1 hge hn;have HRN2:=Q0 (HRN.out.skip HSK.out);generalize Z0d (g v)=sv at b3 tv;generalize Z0d (g u)=su at bk tu;go_wp2_with fail;refine(HNR.out wr (Only.refl _ _)).mono ?_;rintro e w3 ⟨rfl,ho⟩;have HM3:=Q0 (HM.out.grow ho);have HO3:Hid (Only (InM K) w w3):=Q0 (Only.ext HO.out ho);clear ho d1 d2 tv tu;go_wp2_with fail;go_roundw
          case rel=>exact⟨v+1,g,HVL.out,by go_num,HM3,HO3,HRN2,HOK⟩
          case measure=>have:=HVL.out;simp[intOf];omega
         | true=>
          have HMK:Hid (g u=1∧3≤g v∧Z07 E.l u v=true):=Q0 ⟨h1,hge,hn⟩
          rw[hn]at HNR;clear h3 h1 hge hn;have HRN2:=Q0 (HRN.out.mark HMK.out.1 HMK.out.2.1 HMK.out.2.2 HUL.out HVL.out (g':=fun x=>if x=u then 4 else g x) (fun _=>rfl))
          have HOK2:=Q0 (HOK.out.mark HMK.out.1 HMK.out.2.1 HMK.out.2.2 (g':=fun x=>if x=u then 4 else g x) (fun _=>rfl))
          generalize Z0d (g v)=sv at b3 tv;generalize Z0d (g u)=su at bk tu;go_wp2_with fail;refine(HNR.out wr (Only.refl _ _)).mono ?_;rintro e w3 ⟨rfl,ho⟩;have hm3:=HM.out.grow ho;have e2:=(hm3.cell 2).trans (rfl:_=some (TabS K.st E.l.length));have eu:=hm3.tab.st.cell HUL.out;have f2:=hm3.tab.st.free u;obtain⟨hm4,ho4⟩:=hm3.setSt u 4 (g':=fun x=>if x=u then 4 else g x) (fun _=>rfl)
          rw[show Z0d 4=[108,101,102,116] from rfl]at hm4 ho4
          have HM4:=Q0 hm4;have HO4:Hid (Only (InM K) w _):=Q0 ((Only.ext HO.out ho).then ho4);clear ho hm3 hm4 ho4 d1 d2 tv tu;generalize Z0d (g u)=sx at eu;go_wp2_with fail;go_roundw
          case rel=>exact⟨v+1,_,HVL.out,by go_num,HM4,HO4,HRN2,HOK2⟩
          case measure=>have:=HVL.out;simp[intOf];omega
        ·rw[show (g u==1)=false from Q3 h1]at bk
         have HSK:Hid (¬(g u=1∧3≤g v∧Z07 E.l u v=true)):=Q0 (fun h=>h1 h.1)
         clear h3 h1 hge;have HRN2:=Q0 (HRN.out.skip HSK.out);generalize Z0d (g v)=sv at b3 tv;generalize Z0d (g u)=su at bk tu;go_wp2_with fail;go_roundw
         case rel=>exact⟨v+1,g,HVL.out,by go_num,HM,HO,HRN2,HOK⟩
         case measure=>have:=HVL.out;simp[intOf];omega
       by_cases h4:g v=4
       ·rw[show (g v==3)=false from Q3 h3]at b3
        rw[show (g v==4)=true from beq_iff_eq.2 h4]at b4
        have hge:3≤g v:=by omega
        by_cases h1:g u=1
        ·rw[show (g u==1)=true from beq_iff_eq.2 h1]at bk
         cases hn:Z07 E.l u v with
         | false=>
          have HSK:Hid (¬(g u=1∧3≤g v∧Z07 E.l u v=true)):=Q0 (fun h=>by rw[hn]at h;cases h.2.2)
          rw[hn]at HNR;clear h3 h4 h1 hge hn;have HRN2:=Q0 (HRN.out.skip HSK.out);generalize Z0d (g v)=sv at b3 b4 tv;generalize Z0d (g u)=su at bk tu;go_wp2_with fail;refine(HNR.out wr (Only.refl _ _)).mono ?_;rintro e w3 ⟨rfl,ho⟩;have HM3:=Q0 (HM.out.grow ho);have HO3:Hid (Only (InM K) w w3):=Q0 (Only.ext HO.out ho);clear ho d1 d2 tv tu;go_wp2_with fail;go_roundw
          case rel=>exact⟨v+1,g,HVL.out,by go_num,HM3,HO3,HRN2,HOK⟩
          case measure=>have:=HVL.out;simp[intOf];omega
         | true=>
          have HMK:Hid (g u=1∧3≤g v∧Z07 E.l u v=true):=Q0 ⟨h1,hge,hn⟩
          rw[hn]at HNR;clear h3 h4 h1 hge hn;have HRN2:=Q0 (HRN.out.mark HMK.out.1 HMK.out.2.1 HMK.out.2.2 HUL.out HVL.out (g':=fun x=>if x=u then 4 else g x) (fun _=>rfl))
          have HOK2:=Q0 (HOK.out.mark HMK.out.1 HMK.out.2.1 HMK.out.2.2 (g':=fun x=>if x=u then 4 else g x) (fun _=>rfl))
          generalize Z0d (g v)=sv at b3 b4 tv;generalize Z0d (g u)=su at bk tu;go_wp2_with fail;refine(HNR.out wr (Only.refl _ _)).mono ?_;rintro e w3 ⟨rfl,ho⟩;have hm3:=HM.out.grow ho;have e2:=(hm3.cell 2).trans (rfl:_=some (TabS K.st E.l.length));have eu:=hm3.tab.st.cell HUL.out;have f2:=hm3.tab.st.free u;obtain⟨hm4,ho4⟩:=hm3.setSt u 4 (g':=fun x=>if x=u then 4 else g x) (fun _=>rfl)
          rw[show Z0d 4=[108,101,102,116] from rfl]at hm4 ho4
          have HM4:=Q0 hm4;have HO4:Hid (Only (InM K) w _):=Q0 ((Only.ext HO.out ho).then ho4);clear ho hm3 hm4 ho4 d1 d2 tv tu;generalize Z0d (g u)=sx at eu;go_wp2_with fail;go_roundw
          case rel=>exact⟨v+1,_,HVL.out,by go_num,HM4,HO4,HRN2,HOK2⟩
          case measure=>have:=HVL.out;simp[intOf];omega
        ·rw[show (g u==1)=false from Q3 h1]at bk
         have HSK:Hid (¬(g u=1∧3≤g v∧Z07 E.l u v=true)):=Q0 (fun h=>h1 h.1)
         clear h3 h4 h1 hge;have HRN2:=Q0 (HRN.out.skip HSK.out);generalize Z0d (g v)=sv at b3 b4 tv;generalize Z0d (g u)=su at bk tu;go_wp2_with fail;go_roundw
         case rel=>exact⟨v+1,g,HVL.out,by go_num,HM,HO,HRN2,HOK⟩
         case measure=>have:=HVL.out;simp[intOf];omega
       ·rw[show (g v==3)=false from Q3 h3]at b3
        rw[show (g v==4)=false from Q3 h4]at b4
        have hge:¬3≤g v:=by have:=HOK.out.le HLE.out v;omega
        by_cases h1:g u=1
        ·rw[show (g u==1)=true from beq_iff_eq.2 h1]at bk
         have HSK:Hid (¬(g u=1∧3≤g v∧Z07 E.l u v=true)):=Q0 (fun h=>hge h.2.1)
         clear h3 h4 h1 hge;have HRN2:=Q0 (HRN.out.skip HSK.out);generalize Z0d (g v)=sv at b3 b4 tv;generalize Z0d (g u)=su at bk tu;go_wp2_with fail;go_roundw
         case rel=>exact⟨v+1,g,HVL.out,by go_num,HM,HO,HRN2,HOK⟩
         case measure=>have:=HVL.out;simp[intOf];omega
        ·rw[show (g u==1)=false from Q3 h1]at bk
         have HSK:Hid (¬(g u=1∧3≤g v∧Z07 E.l u v=true)):=Q0 (fun h=>h1 h.1)
         clear h3 h4 h1 hge;have HRN2:=Q0 (HRN.out.skip HSK.out);generalize Z0d (g v)=sv at b3 b4 tv;generalize Z0d (g u)=su at bk tu;go_wp2_with fail;go_roundw
         case rel=>exact⟨v+1,g,HVL.out,by go_num,HM,HO,HRN2,HOK⟩
         case measure=>have:=HVL.out;simp[intOf];omega
      ·have hvz:¬(v:Int)<(E.l.length:Int):=by omega
       have hve:v=E.l.length:=by omega
       rw[hve]at HRN;have HRN2:=Q0 HRN.out.line;clear hvl hv hve;go_wp2_with fail;go_roundw
       case rel=>exact⟨u+1,g,HUL.out,by go_num,HM,HO,HRN2,HOK⟩
       case measure=>have:=HUL.out;simp[intOf];omega
    ·have huz:¬(u:Int)<(E.l.length:Int):=by omega
     have hue:u=E.l.length:=by omega
     rw[hue]at HRN;have HRS2:=Q0 (HRS.out.next HRN.out);clear hul hu hue;go_wp2_with fail;go_roundw
     case rel=>exact⟨t+1,g,HTL.out,by go_num,HM,HO,HRS2,HOK⟩
     case measure=>have:=HTL.out;simp[intOf];omega
  ·have htz:¬(t:Int)<(E.l.length:Int):=by omega
   have hte:t=E.l.length:=by omega
   rw[hte]at HRS;have HCL:=Q0 (HFE.out f HOK.out (HRS.out.done HIN.out HF0.out));clear htl ht hte;go_wp2_with fail;go_end0;rw[HOU.out,HHI.out,HWH.out]at HM;exact⟨rfl,HM.out.congr (fun x _=>HCL.out x) (fun _ _=>rfl) (fun _ _=>rfl) (fun _ _=>rfl),HO.out⟩
end
section
variable {w0 w w':World}{E:BE}{K:MK}{s:BS}{o:List Nat}{is:Nat→Bool}
theorem Z4n{i:Nat}(hi:i∈E.sm)(b:Bool)(k:Nat):mst E (Z1l s i b) k=if k=i then 2 else mst E s k:=by
 unfold mst;show (if k∈E.sm then(if k=i then 2 else s.st k)else 0)=_
 by_cases e:k=i
 ·subst e;rw[if_pos hi,if_pos rfl,if_pos rfl]
 ·rw[if_neg e,if_neg e]
theorem Zg1{i:Nat}(hi:i∈E.sm)(b:Bool)(k:Nat):outM E (Z1l s i b) k=if k=i then(E.ans i).1 else outM E s k:=by
 unfold outM;rw[Z4n hi];by_cases e:k=i
 ·subst e;rw[if_pos rfl,if_pos rfl,if_pos rfl]
 ·rw[if_neg e,if_neg e]
theorem Zgt{i:Nat}(hi:i∈E.sm)(b:Bool)(k:Nat):hitM E (Z1l s i b) k=if k=i then b else hitM E s k:=by
 unfold hitM;rw[Z4n hi];show ((if k=i then 2 else mst E s k)==2&&(if k=i then b else s.hit k))=_
 by_cases e:k=i
 ·subst e;rw[if_pos rfl,if_pos rfl,if_pos rfl];rfl
 ·rw[if_neg e,if_neg e,if_neg e]
theorem Zf8{i:Nat}(hi:i∈E.sm)(h1:s.st i=1)(b:Bool)(k:Nat):whyM E (Z1l s i b) k=whyM E s k:=by
 unfold whyM;rw[Z4n hi];by_cases e:k=i
 ·subst e;rw[if_pos rfl,Z1z hi,h1];rfl
 ·rw[if_neg e]
def Z7w(E:BE)(q:B)(t:Nat):List B:=((E.l.take t).filter fun r=>r.out==q).map fun _=>(E.W q).1
def Z5q(E:BE)(q:B)(t:Nat):Bool:=(E.l.take t).any fun r=>r.out==q
theorem Zlz{q:B}{t:Nat}{r:Rule}(h:E.l[t]?=some r):Z7w E q (t+1)=Z7w E q t++(if r.out==q then [(E.W q).1]else []):=by
 unfold Z7w;rw[List.take_add_one,h,Option.toList_some,List.filter_append,List.map_append];cases hq:r.out==q with
 | true=>rw[List.filter_cons_of_pos (by simpa using hq)];rfl
 | false=>rw[List.filter_cons_of_neg (by simpa using hq)];rfl
theorem Zip{q:B}{t:Nat}{r:Rule}(h:E.l[t]?=some r):Z5q E q (t+1)=(Z5q E q t || r.out==q):=by
 unfold Z5q;rw[List.take_add_one,h,List.any_append];simp
theorem Zom(hR:Z34 E.l)(q:B):Z7w E q E.l.length=if Z5q E q E.l.length then [(E.W q).1]else []:=by
 unfold Z7w Z5q;rw[List.take_length];have key:∀(l:List Rule),(l.map Rule.out).Nodup→(l.filter fun r=>r.out==q).map (fun _=>(E.W q).1)=if (l.any fun r=>r.out==q)then [(E.W q).1]else []:=by
  intro l hn
  induction l with
  | nil=>rfl
  | cons r l ih=>
   rw[List.map_cons,List.nodup_cons]at hn;rw[List.any_cons];cases hq:r.out==q with
   | false=>rw[List.filter_cons_of_neg (by simpa using hq),ih hn.2,Bool.false_or]
   | true=>
    have hnone:l.filter (fun r=>r.out==q)=[]:=by
     rw[List.filter_eq_nil_iff];intro x hx e;have e1:x.out=q:=by simpa using e
     have e2:r.out=q:=by simpa using hq
     exact hn.1 (List.mem_map.2 ⟨x,hx,by rw[e1,e2]⟩)
    rw[List.filter_cons_of_pos (by simpa using hq),hnone,Bool.true_or]
    rfl
 exact key E.l hR.2.2
theorem Z0w.made(h:Z0w E o is){i:Nat}(hi:i∈E.sm)(hr:Z0n E s i=true){q:B}(hq:q∈(E.rule i).ins){j:Nat}{r:Rule}(hj:E.l[j]?=some r)(he:(r.out==q)=true):outM E s j=(E.W q).1∧(BInv E s→(E.W q).2=0):=by
 have hjl:=(Q2 hj).1;have hre:E.rule j=r:=by unfold BE.rule;rw[hj];rfl
 have hro:(E.rule j).out=q:=by rw[hre];simpa using he
 have hn:E.nd i j=true:=(Z9z (h.lt i hi) hjl).2 (by rw[hro];exact hq)
 have hjs:=h.clos i hi j hjl hn;have h2:=(Z13.1 hr).2 j hjs hn;have ha:E.ans j=E.W q:=by unfold BE.ans;rw[hro]
 refine⟨?_,fun I=>by rw[←ha];exact I.two j hjs h2⟩
 unfold outM;rw[Z1z hjs,if_pos h2,ha]
theorem Z0w.leafM(h:Z0w E o is){i:Nat}(hi:i∈E.sm){q:B}(hq:q∈(E.rule i).ins)(hm:Z5q E q E.l.length=false):E.W q=Z7p E.T q:=by
 rcases h.input hi hq with⟨k,hk,_,hko,_,_⟩|⟨_,e⟩
 ·exfalso
  unfold Z5q at hm;rw[List.take_length,List.any_eq_false]at hm;exact hm _ (Q4 (BE.rule_at (h.lt k hk))) (by simpa using hko)
 ·exact e
structure RCch(w:World)(cb:Nat)(cv:Value)(many:Nat)(L:FL):Prop where
 cells:w.heap[cb]?=some (.cells #[I many,cv] 93 (0,0))
 rd:RdS 2 encE w cv L
 ok:Z1x L
 nodup:(L.map (·.1)).Nodup
 len:L.length≤many
 many:many≤100
 lt:∀i,cv.ownBlock=some i→i<w.heap.size∧i≠cb
theorem RCch.later{cb:Nat}{cv:Value}{many:Nat}{L:FL}{p:Nat→Prop}(h:RCch w cb cv many L)(ho:Only p w w')(h1:¬p cb)(h2:∀i,cv.ownBlock=some i→¬p i):RCch w' cb cv many L:=
 ⟨ho.heapOf h.cells h1,h.rd.later ho h2,h.ok,h.nodup,h.len,h.many,fun i e=>⟨Nat.lt_of_lt_of_le (h.lt i e).1 ho.size,(h.lt i e).2⟩⟩
theorem RCch.ext{cb:Nat}{cv:Value}{many:Nat}{L:FL}(h:RCch w cb cv many L)(ho:Ext w w'):RCch w' cb cv many L:=h.later ho (fun h=>h) (fun _ _ h=>h)
theorem RCch.got{cb:Nat}{cv:Value}{many:Nat}{L L':FL}{r:Value}{e:Ending}(h:RCch w cb cv many L)(hg:GotM w cb many cv L' r e w')(hok:Z1x L')(hn:(L'.map (·.1)).Nodup)(hl:L'.length≤many) :
  ∃cv',e=.returned r∧RCch w' cb cv' many L'∧Only (fun i=>i=cb) w w'∧∀i,cv'.ownBlock=some i→cv.ownBlock=some i∨w.heap.size≤i:=by
 obtain⟨cv',rfl,h1,h2,h3,h4⟩:=hg;have hc:=Z03 h.cells;refine⟨cv',rfl,⟨h1,h2,hok,hn,hl,h.many,fun i e=>?_⟩,h3,fun i e=>(h4 i e).imp id (·.1)⟩
 rcases h4 i e with e2|⟨e2,e3⟩
 ·exact⟨Nat.lt_of_lt_of_le (h.lt i e2).1 h3.size,(h.lt i e2).2⟩
 ·exact⟨e3,by omega⟩
def CchM(w:World)(K:MK)(cb:Nat)(cv:Value):CS→Prop
 | none=>K.cp=.pointer none
 | some (many,L)=>K.cp=PTR cb∧RCch w cb cv many L∧¬InMA K cb∧∀i,cv.ownBlock=some i→¬InMA K i
theorem CchM.ext{cb:Nat}{cv:Value}{C:CS}(h:CchM w K cb cv C)(ho:Ext w w'):CchM w' K cb cv C:=by
 cases C with
 | none=>exact h
 | some p=>obtain⟨many,L⟩:=p;exact⟨h.1,h.2.1.ext ho,h.2.2⟩
theorem CchM.tabs{cb:Nat}{cv:Value}{C:CS}(h:CchM w K cb cv C)(ho:Only (InM K) w w'):CchM w' K cb cv C:=by
 cases C with
 | none=>exact h
 | some p=>
  obtain⟨many,L⟩:=p;exact⟨h.1,h.2.1.later ho (fun e=>h.2.2.1 (.inr (.inr (.inr e)))) (fun i e e2=>h.2.2.2 i e (.inr (.inr (.inr e2)))),h.2.2⟩
def Z1f(w0 w:World)(E:BE)(K:MK)(cb:Nat)(cv:Value)(r:Bool×Nat)(s:BS)(C:CS)(e:Ending)(w':World):Prop:=
 ∃cv',e=.returned (.tuple #[.bool r.1,IN r.2])∧Z2x w0 w' E K s∧CchM w' K cb cv' C∧Only (fun i=>InM K i∨i=cb) w w'∧∀i,cv'.ownBlock=some i→cv.ownBlock=some i∨(w.heap.size≤i∧i<w'.heap.size)
theorem Z1f.of_some{cb:Nat}{cv:Value}{many:Nat}{L:FL}{r:Bool×Nat}{e:Ending}(h:∃cv',e=.returned (.tuple #[.bool r.1,IN r.2])∧Z2x w0 w' E K s∧CchM w' K cb cv' (some (many,L))∧Only (fun i=>InM K i∨i=cb) w w'∧∀i,cv'.ownBlock=some i→cv.ownBlock=some i∨w.heap.size≤i):Z1f w0 w E K cb cv r s (some (many,L)) e w':=by
 obtain⟨cv',h1,h2,h3,h4,h5⟩:=h;exact⟨cv',h1,h2,h3,h4,fun i e=>(h5 i e).imp id fun h=>⟨h,(h3.2.1.lt i e).1⟩⟩
theorem Z1f.same{cb:Nat}{cv:Value}{C:CS}{r:Bool×Nat}(h:Z2x w0 w E K s)(hC:CchM w K cb cv C)(ho:Ext w w'):Z1f w0 w E K cb cv r s C (.returned (.tuple #[.bool r.1,IN r.2])) w':=
 ⟨cv,rfl,h.grow ho,hC.ext ho,ho.mono fun _ _ h=>h.elim,fun _ h=>.inl h⟩
theorem runM_not{cb:Nat}{cv:Value}{C:CS}(h:Z2x w0 w E K s)(hC:CchM w K cb cv C)(hW:Z0w E o is)(hI:BInv E s)(z:Int)(hz:¬∃i:Nat,z=(i:Int)∧i∈E.sm∧Z0n E s i=true) :
    Calls Tryz.prog 57 #[PTR K.b,I z] w (Z1f w0 w E K cb cv (runZ E C s z).1 (runZ E C s z).2.1 (runZ E C s z).2.2):=by
  have H:=Q0 h;have HC:=Q0 hC;have hl40:=hW.right.1;have hlz:(E.l.length:Int)≤40:=by omega
  by_cases hr:0≤z∧z<(E.l.length:Int)
  · obtain⟨i,rfl⟩:∃i:Nat,z=(i:Int):=⟨z.toNat,by omega⟩
    have hin:i<E.l.length:=by omega
    have hiz:(i:Int)<(E.l.length:Int):=by omega
    have hi0:(0:Int)≤(i:Int):=by omega
    have hi1:¬(i:Int)<0:=by omega
    have hi2:¬(E.l.length:Int)≤(i:Int):=by omega
    have c1:=(h.cell 1).trans (rfl:_=some (Value.slice K.la E.l.length K.lc));have c2:=(h.cell 2).trans (rfl:_=some (TabS K.st E.l.length));have t0:=h.tab.st.cell hin;have hb0:=Zaf (Z73 hI i);have hb1:=Z4j (Z73 hI i);by_cases him:i∈E.sm
    · have hrz:runZ E C s (i:Int)=runP E C s i:=Z7d him
      have hm1:1≤s.st i:=(hI.rng i him).1;by_cases h1:s.st i=1
      · have hnr:Z0n E s i=false:=by
          cases hq:Z0n E s i with
          | false=>rfl
          | true=>exact absurd ⟨i,rfl,him,hq⟩ hz
        have hre:runZ E C s (i:Int)=((false,11),s,C):=by
          rw[hrz];unfold runP;rw[if_neg (by simpa using him),if_neg (by simpa using h1),if_pos hnr]
        rw[hre];have hrm:=Z64 h hW hI hin;rw[show Z2a E s i=false by unfold Z2a;rw[hnr,Bool.and_false]]at hrm
        have HRM:=Q0 hrm;rw[Z1z him,h1]at hb0 hb1 t0;rw[show ((1:Nat)==0)=false from rfl]at hb0
        rw[show ((1:Nat)==1)=true from rfl]at hb1
        generalize Z0d 1=sv at t0 hb0 hb1;clear h hC hW hI hz hr him hrz hm1 h1 hnr hre hrm hin;go_enter Tryz.func57,Tryz.ntmps57;go_wp2_with fail;refine HRM.out.mono ?_;rintro e w3 ⟨rfl,ho⟩;have HX3:=Q0 ho;clear ho;go_wp2_with fail;go_ret2;exact Z1f.same (r:=(false,11)) H.out HC.out HX3.out
      · have hre:runZ E C s (i:Int)=((false,12),s,C):=by
          rw[hrz];unfold runP;rw[if_neg (by simpa using him),if_pos (by simpa using h1)]
        rw[hre];rw[Z1z him]at hb0 hb1 t0;rw[show (s.st i==0)=false from Q3 (by omega)]at hb0
        rw[show (s.st i==1)=false from Q3 h1]at hb1
        generalize Z0d (s.st i)=sv at t0 hb0 hb1;clear h hC hW hI hz hr him hrz hm1 h1 hre hin;go_enter Tryz.func57,Tryz.ntmps57;go_wp2_with fail;go_ret2;exact Z1f.same (r:=(false,12)) H.out HC.out (Only.refl _ _)
    · have hre:runZ E C s (i:Int)=((false,6),s,C):=Z6j fun k hk e=>him (by
       have:k=i:=by omega
       rw[←this];exact hk)
      rw[hre];rw[Z3u him]at hb0 hb1 t0;rw[show ((0:Nat)==0)=true from rfl]at hb0
      generalize Z0d 0=sv at t0 hb0 hb1;clear h hC hW hI hz hr him hre hin hb1;go_enter Tryz.func57,Tryz.ntmps57;go_wp2_with fail;go_ret2;exact Z1f.same (r:=(false,6)) H.out HC.out (Only.refl _ _)
  · have hre:runZ E C s z=((false,6),s,C):=Z6j fun k hk e=>hr ⟨by omega,by have:=hW.lt k hk;omega⟩
    rw[hre];have c1:=(h.cell 1).trans (rfl:_=some (Value.slice K.la E.l.length K.lc));by_cases hz0:z<0
    · clear h hC hW hI hz hr hre
      go_enter Tryz.func57,Tryz.ntmps57
      go_wp2_with fail;go_ret2
      exact Z1f.same (r:=(false,6)) H.out HC.out (Only.refl _ _)
    · have hz1:(E.l.length:Int)≤z:=by omega
      clear h hC hW hI hz hr hre;go_enter Tryz.func57,Tryz.ntmps57;go_wp2_with fail;go_ret2;exact Z1f.same (r:=(false,6)) H.out HC.out (Only.refl _ _)
end
end Go.Proofs.YtnmhaipjfpongacGreatDoor
