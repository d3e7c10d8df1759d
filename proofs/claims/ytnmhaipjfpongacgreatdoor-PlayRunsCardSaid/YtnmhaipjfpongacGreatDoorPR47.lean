/- A part of this claim's proof;each theorem bears its own conditions. -/
import Derived.Test.YtnmhaipjfpongacGreatDoorPR46
set_option maxRecDepth 100000
set_option maxHeartbeats 16000000
namespace Go.Proofs.YtnmhaipjfpongacGreatDoor
open Go.ChangeShapes Go.WideShapes Go.ChangeAt Go.RowKit
structure Zqk(r:Rule):Prop where
 out:∀c∈r.out,c≠32
 kind:∀c∈r.kind,c≠32
 word:∀c∈r.word,c≠34∧c≠92
 ne:r.ins≠[]
 ins:∀s∈r.ins,s≠[]∧(32:UInt8)∉s
 lo:r.out.length≤200
 lk:r.kind.length≤200
 lw:r.word.length≤200
 li:(joinc 32 r.ins).length≤5000
 first:∀c,(joinc 32 r.ins)[0]?=some c→c≠34
def wordB(wd:B):B:=if wd=[]then []else 32 :: 34 :: (wd++[34])
def Z9v(r:Rule):B:=r.out++([32,61,32]++(r.kind++(wordB r.word++32 :: joinc 32 r.ins)))
theorem Zd8{a b:B}{k:Nat}:(a++b)[a.length+k]?=b[k]?:=by rw[List.getElem?_append_right (Nat.le_add_right _ _),Nat.add_sub_cancel_left]
theorem Zjh{a b:B}{k:Nat}{c:UInt8}(h:a[k]?=some c):(a++b)[k]?=some c:=by rw[List.getElem?_append_left (Q2 h).1];exact h
theorem Zk6{s:B}{j:Nat}{c:UInt8}(h:s[j]?=some c):(s.take (j+1)).drop j=[c]:=by
 have hl:=(Q2 h).1;rw[List.take_add_one,h,List.drop_append_of_le_length (by rw[List.length_take];omega),List.drop_take]
 simp
theorem has_not{s:B}{j:Nat}{c:UInt8}(h:s[j]?=some c)(hc:c≠32):Lib.occAt s [32,61,32] j=false:=by
 cases ho:Lib.occAt s [32,61,32] j with
 | false=>rfl
 | true=>
  have:=Lib.occAt_head rfl ho
  rw[h]at this;exact absurd (Option.some.inj this) hc
theorem has_yes{a b:B}:Lib.occAt (a++([32,61,32]++b)) [32,61,32] a.length=true:=by
 unfold Lib.occAt;rw[List.drop_left];exact List.isPrefixOf_iff_prefix.2 (List.prefix_append _ _)
theorem Zeu{c d:UInt8}(h:c≠d):((c.toNat:Int)==(d.toNat:Int))=false:=Q3 fun e=>h (UInt8.toNat_inj.1 (by omega))
def RetRule(r:Rule)(w:World)(e:Ending)(w':World):Prop:=∃v,e=.returned (.tuple #[.agg #[S r.out,S r.kind,S r.word,v],.bool true])∧Row w.heap.size w' v r.ins∧Ext w w'
theorem Zdc{l:List B}(h:∀x∈l,x≠[]):idx (fun y:B=>y==[]) l=-1:=Z5i fun _ y hy=>by have:=h y (Q4 hy);simpa using this
theorem Z70(tmps:Array Value)(W:World)(h:Nat)(a b c d:Value)(h2:tmps[2]?=some (.pointer (some ⟨h,0,none⟩)))(h3:tmps[3]?=some (.bool true))(d0:W.cell? ⟨h,0,none⟩=some a)(d1:W.cell? ⟨h,1,none⟩=some b)(d2:W.cell? ⟨h,2,none⟩=some c)(d3:W.cell? ⟨h,3,none⟩=some d) :
  (results Tryz.f209 tmps).run Tryz.prog W=.ok (.tuple #[.agg #[a,b,c,d],.bool true]) W:=by
 simp only[results,Tryz.results209];simp[go_sem,h2,h3,d0,d1,d2,d3]
theorem Zlk(w:World)(r:Rule)(h:Zqk r):Calls Tryz.prog 209 #[S (Z9v r)] w (RetRule r w):=by
 have HOK:=Q0 h;obtain⟨J,hJ⟩:∃J,J=joinc 32 r.ins:=⟨_,rfl⟩;obtain⟨T,hT⟩:∃T,T=wordB r.word++32 :: J:=⟨_,rfl⟩;obtain⟨s,hs⟩:∃s,s=Z9v r:=⟨_,rfl⟩;rw[←hs];have HJ:=Q0 hJ;have HT:=Q0 hT;have hs':s=r.out++([32,61,32]++(r.kind++T)):=by rw[hs,hT,hJ];rfl
 have HS:=Q0 hs';have hlen:s.length=r.out.length+3+r.kind.length+T.length:=by rw[hs'];simp;omega
 have hTl:T.length≤6000∧1≤T.length:=by
  have:=h.lw
  have:=h.li
  rw[hT,hJ];unfold wordB;split <;> simp <;> omega
 have HTL:=Q0 hTl;have HLEN:=Q0 hlen;have hlo:=h.lo;have hlk:=h.lk;have hsz:s.length≤10000:=by omega
 have HOUT:Hid (∀(j:Nat)(c:UInt8),r.out[j]?=some c→s[j]?=some c∧c≠32):=Q0 (fun j c hj=>⟨by rw[hs'];exact Zjh hj,h.out c (Q4 hj)⟩)
 have HHAS:Hid (∀W (j:Nat),j≤s.length→Calls Tryz.prog 223 #[S s,I j,S [32,61,32]] W (RetI (.bool (Lib.occAt s [32,61,32] j)) W)):=Q0 (fun W j hj=>Zj1 W s [32,61,32] j (by omega) (by decide) hj)
 have HOA:Hid (Lib.occAt s [32,61,32] r.out.length=true):=Q0 (by rw[hs'];exact has_yes)
 have HMO:Hid ((s.take r.out.length).drop 0=r.out):=Q0 (by rw[hs',List.take_left,List.drop_zero])
 have HKI:Hid (∀(j:Nat)(c:UInt8),r.kind[j]?=some c→s[r.out.length+3+j]?=some c∧c≠32):=Q0 (fun j c hj=>⟨by
  rw[hs',show r.out.length+3+j=r.out.length+(3+j) by omega,Zd8,show 3+j=([32,61,32]:B).length+j from rfl,Zd8]
  exact Zjh hj,h.kind c (Q4 hj)⟩)
 have HTA:Hid (∀(j:Nat)(c:UInt8),T[j]?=some c→s[r.out.length+3+r.kind.length+j]?=some c):=Q0 (fun j c hj=>by
  rw[hs',show r.out.length+3+r.kind.length+j=r.out.length+(3+(r.kind.length+j)) by omega,Zd8,show 3+(r.kind.length+j)=([32,61,32]:B).length+(r.kind.length+j) from rfl,Zd8,Zd8]
  exact hj)
 have hsl:(s.length:Int)≤10000:=by omega
 have hso:r.out.length+4≤s.length:=by omega
 clear h hJ hT hs hs' hTl hlen;go_enter Tryz.func209,Tryz.ntmps209;go_wp2_with fail;go_loopw [4,5] (fun i _ wr=>∃j:Nat,j≤r.out.length∧i=.int .i64 j∧Hid (Ext w wr)∧Hid (wr.heap[w.heap.size]?=some (.cells #[S [],S [],S [],.slice none 0 0] 55 (0,0)))) (fun i _ _=>r.out.length-(intOf i).toNat)
 case atStart=>exact⟨0,Nat.zero_le _,rfl,Q0 (Only.alloc _ _ _),Q0 (MapKept.heap_alloc w _).1⟩
 case round=>
  obtain⟨j,hj,rfl,HX,HB⟩:=hrel;have hjz:(j:Int)<(s.length:Int):=by omega
  have HHJ:=Q0 (HHAS.out wr j (by omega))
  by_cases hlt:j<r.out.length
  case pos=>
   obtain⟨c,hc⟩:∃y,r.out[j]?=some y:=⟨_,Q1 hlt⟩;have hno:=has_not (HOUT.out j c hc).1 (HOUT.out j c hc).2;rw[hno]at HHJ;have HJL:=Q0 hlt;clear hc hno hj hlt;go_wp2_with fail;refine HHJ.out.mono ?_;rintro e w2 ⟨rfl,rfl⟩;go_wp2_with fail;go_roundw
   case rel=>exact⟨j+1,HJL.out,by go_num,HX,HB⟩
   case measure=>have:=HJL.out;simp[intOf];omega
  case neg=>
   obtain rfl:j=r.out.length:=by omega
   rw[HOA.out]at HHJ;have hm:=Z5s s 0 r.out.length;rw[HMO.out]at hm;have q3:(r.out.length:Int)≤(s.length:Int):=by omega
   have q4:¬(s.length:Int)≤(r.out.length:Int):=by omega
   have q5:¬s.length≤r.out.length:=by omega
   clear hj hlt;go_wp2_with fail;refine HHJ.out.mono ?_;rintro e w2 ⟨rfl,rfl⟩;go_wp2_with fail;have HB0:=Q0 (MapKept.heap_alloc wr (.cells #[S r.out,S [],S [],.slice none 0 0] 55 (0,0))).1;have hx0:=Only.alloc (fun _=>False) wr (.cells #[S r.out,S [],S [],.slice none 0 0] 55 (0,0))
   have HX0:=Q0 (HX.out.then hx0);have HG0:=Q0 (hx0.heapOf HB.out (fun h=>h))
   have HRG:Hid (w.heap.size<wr.heap.size):=Q0 (Z03 HB.out);generalize (wr.alloc (.cells #[S r.out,S [],S [],.slice none 0 0] 55 (0,0)))=wA at HB0 HX0 HG0 ⊢;obtain⟨rb,hrb⟩:∃rb,rb=wr.heap.size:=⟨_,rfl⟩;rw[←hrb]at HB0 HRG ⊢;clear hrb hx0 HX HB HHJ hm q3 q4 q5 hjz;have HKL:Hid (r.kind.length≤200):=Q0 hlk;go_loopw [4] (fun i wx=>∃(k p:Nat),k≤r.kind.length∧i=.int .i64 p∧Hid (p=r.out.length+3+k)∧Hid (Ext w wx)∧Hid (wx.heap[w.heap.size]?=some (.cells #[S [],S [],S [],.slice none 0 0] 55 (0,0)))∧Hid (wx.heap[rb]?=some (.cells #[S r.out,S (r.kind.take k),S [],.slice none 0 0] 55 (0,0)))) (fun i _=>r.out.length+3+r.kind.length-(intOf i).toNat)
   case atStart=>exact⟨0,r.out.length+3,Nat.zero_le _,by first|rfl|go_num|simp,Q0 rfl,HX0,HG0,HB0⟩
   case round=>
    clear HB0 HX0 HG0;obtain⟨k,p,hk,rfl,HP,HX,HG,HB⟩:=hrel;have hpe:=HP.out;have hpl:p<s.length:=by have:=HTL.out;have:=HLEN.out;omega
    have hplz:(p:Int)<(s.length:Int):=by omega
    have hp0:(0:Int)≤(p:Int):=by omega
    by_cases hlt:k<r.kind.length
    case pos=>
     obtain⟨c,hc⟩:∃y,r.kind[k]?=some y:=⟨_,Q1 hlt⟩;obtain⟨hsc,hc32⟩:=HKI.out k c hc;rw[←hpe]at hsc;have hg:=Z3x hsc;have hz:=Zeu hc32;have hz:((c.toNat:Int)==32)=false:=hz;have hmd:=Z5s s p (p+1);rw[Zk6 hsc]at hmd;obtain⟨p1,hp1⟩:∃p1,p1=p+1:=⟨_,rfl⟩;rw[←hp1]at hmd;have hw:IntKind.i64.wrap ((p:Int)+1)=(p1:Int):=by rw[IntWalk.i64_in _ (by omega)];omega
     have q0:(0:Int)≤(p1:Int):=by omega
     have q1:(p:Int)≤(p1:Int):=by omega
     have q2:(p1:Int)≤(s.length:Int):=by omega
     have q3:p≤p1:=by omega
     have HP1:=Q0 hp1;have HTK:Hid (r.kind.take (k+1)=r.kind.take k++[c]):=Q0 (by rw[List.take_add_one,hc];rfl)
     have htk:(r.kind.take k).length≤200:=by rw[List.length_take];omega
     have HKK:=Q0 hlt;generalize r.kind.take k=kt at HB HTK htk;have hba:=Z1e kt [c];have hl1:¬9223372036854775807<kt.length+1:=by omega
     have c1:=(Z00 HB.out 1).trans (rfl:_=some (S kt));have f1:=Z02 HB.out 1;clear hc hsc hc32 hk hlt hpe htk hpl hp1;go_wp2_with fail;go_region_law (fail);have hso1:Only (fun i=>i=rb) wr (wr.setCell ⟨rb,1,none⟩ (S (kt++[c]))).drew:=(Only.set (p:=fun i=>i=rb) _ rfl).thenDrew
     have HXN:Hid (Ext w (wr.setCell ⟨rb,1,none⟩ (S (kt++[c]))).drew):=Q0 (HX.out.trans hso1 (fun _ _ h=>h) (fun i hi e=>by have:=HRG.out;omega))
     have HGN:=Q0 (hso1.heapOf HG.out (by have:=HRG.out;omega))
     have HBN:Hid ((wr.setCell ⟨rb,1,none⟩ (S (kt++[c]))).drew.heap[rb]?=some (.cells #[S r.out,S (kt++[c]),S [],.slice none 0 0] 55 (0,0))):=Q0 (Z01 HB.out 1 (S (kt++[c])))
     clear hso1;go_wp2_with fail;go_roundw
     case rel=>exact⟨k+1,p1,HKK.out,by first|rfl|(rw[HP1.out];go_num),Q0 (by rw[HP1.out,HP.out];omega),HXN,HGN,by rw[HTK.out];exact HBN⟩
     case measure=>have:=HP1.out;have:=HP.out;have:=HKK.out;simp[intOf];omega
    case neg=>
     obtain rfl:k=r.kind.length:=by omega
     rw[List.take_length]at HB;clear hlt hk;by_cases hwd:r.word=[]
     case pos=>
      have HWD:=Q0 hwd;have hT:T=32 :: J:=by rw[HT.out,hwd];rfl
      have hJ0:∃c J',J=c :: J'∧c≠34:=by
       have hf:=HOK.out.first
       rw[←HJ.out]at hf;cases hj:J with
       | cons c J'=>exact⟨c,J',rfl,hf c (by rw[hj];rfl)⟩
       | nil=>
        have h1:=Z8h 32 _ HOK.out.ne fun x hx=>(HOK.out.ins x hx).2
        rw[←HJ.out,hj]at h1;exact absurd rfl (HOK.out.ins [] (by rw[←h1];simp[cutc])).1
      obtain⟨c,J',hcJ,hc34⟩:=hJ0;have H32:Hid (s[p]?=some 32):=Q0 (by rw[hpe];exact HTA.out 0 32 (by rw[hT];rfl))
      have h33:s[p+1]?=some c:=by
       rw[hpe,Nat.add_assoc];have:=HTA.out 1 c (by rw[hT,hcJ];rfl)
       exact this
      have HDJ:Hid (s.drop (p+1)=J):=Q0 (by
       rw[HS.out,hpe,hT];rw[show r.out.length+3+r.kind.length+1=(r.out++([32,61,32]++(r.kind++[32]))).length by simp;omega]
       rw[show r.out++([32,61,32]++(r.kind++32 :: J))=(r.out++([32,61,32]++(r.kind++[32])))++J by simp]
       exact List.drop_left)
      obtain⟨p1,hp1⟩:∃p1,p1=p+1:=⟨_,rfl⟩;rw[←hp1]at h33;have hg1:=Z3x h33;have hz1:((c.toNat:Int)==34)=false:=Zeu hc34;have hp1z:(p:Int)+1=(p1:Int):=by omega
      have hp1l:(p1:Int)<(s.length:Int):=by have:=(Q2 h33).1;omega
      have hg:=Z3x H32.out;have hz:(((32:UInt8).toNat:Int)==32)=true:=rfl;have q0:(0:Int)≤(p:Int):=by omega
      have q1:(p:Int)<(s.length:Int):=by omega
      have q2:¬(s.length:Int)≤(p:Int):=by omega
      have q3:(p1:Int)≤(s.length:Int):=by omega
      have q4:(0:Int)≤(p1:Int):=by omega
      have hmj:=Z5s s p1 s.length;rw[List.take_length,hp1,HDJ.out]at hmj;rw[←hp1]at hmj;have HCUT:=Q0 (fun W=>Z3c W 32 32 rfl J (by rw[HJ.out];have:=HOK.out.li;omega))
      have HCJ:Hid (cutc 32 J=r.ins):=Q0 (by rw[HJ.out];exact Z8h 32 _ HOK.out.ne fun x hx=>(HOK.out.ins x hx).2)
      rw[HCJ.out]at HCUT;clear hT hcJ hc34 h33 hpe hpl hp1;go_wp2_with fail;refine(HCUT.out _).mono ?_;rintro e w5 ⟨g5,cap5,rfl,hrow,ho5⟩;have hb5:=ho5.heapOf HB.out (fun h=>h)
      have hg5:=ho5.heapOf HG.out (fun h=>h)
      have hx5:=HX.out.then ho5;have f3:=Z02 hb5 3;have c3:=(Z00 hb5 3).trans (rfl:_=some (Value.slice none 0 0));have hset:Only (fun i=>i=rb) w5 (w5.setCell ⟨rb,3,none⟩ (.slice (some ⟨g5,0,none⟩) r.ins.length cap5)):=Only.set (p:=fun i=>i=rb) _ rfl
      have HB6:Hid ((w5.setCell ⟨rb,3,none⟩ (.slice (some ⟨g5,0,none⟩) r.ins.length cap5)).heap[rb]?=some (.cells #[S r.out,S r.kind,S [],.slice (some ⟨g5,0,none⟩) r.ins.length cap5] 55 (0,0))):=Q0 (Z01 hb5 3 _)
      have HG6:=Q0 (hset.heapOf hg5 (by have:=HRG.out;omega))
      have HX6:Hid (Ext w (w5.setCell ⟨rb,3,none⟩ (.slice (some ⟨g5,0,none⟩) r.ins.length cap5))):=Q0 (hx5.trans hset (fun _ _ h=>h) (fun i hi e=>by have:=HRG.out;omega))
      have HGL:Hid (w.heap.size<wr.heap.size):=Q0 (Z03 HG.out);have HR6:Hid (Row wr.heap.size (w5.setCell ⟨rb,3,none⟩ (.slice (some ⟨g5,0,none⟩) r.ins.length cap5)) (.slice (some ⟨g5,0,none⟩) r.ins.length cap5) r.ins):=Q0 (hset.row hrow (fun i e e2=>by
       have:=(hrow.lt i e).1
       have h2:=Z03 HB.out;omega))
      clear hb5 hg5 hx5 hset hrow ho5 hg hz q0 q1 q2 q3 q4 hmj;obtain⟨w6,hw6⟩:∃w6,w6=w5.setCell ⟨rb,3,none⟩ (.slice (some ⟨g5,0,none⟩) r.ins.length cap5):=⟨_,rfl⟩;rw[←hw6]at HB6 HG6 HX6 HR6;have HW6:=Q0 hw6.symm;clear hw6;go_wp2_with fail;rw[HW6.out];have b0:=(Z00 HB6.out 0).trans (rfl:_=some (S r.out));have b1:=(Z00 HB6.out 1).trans (rfl:_=some (S r.kind));have b2:=(Z00 HB6.out 2).trans (rfl:_=some (S []));have b3:=(Z00 HB6.out 3).trans (rfl:_=some (Value.slice (some ⟨g5,0,none⟩) r.ins.length cap5));have g0:=Z02 HG6.out 0;have g1:=Z02 HG6.out 1;have g2:=Z02 HG6.out 2;have g3:=Z02 HG6.out 3;have s0:=(Z00 HG6.out 0).trans (rfl:_=some (S []));have s1:=(Z00 HG6.out 1).trans (rfl:_=some (S []));have s2:=(Z00 HG6.out 2).trans (rfl:_=some (S []));have s3:=(Z00 HG6.out 3).trans (rfl:_=some (Value.slice none 0 0));clear c3 f3;have HIX:Hid (∀W,Rd S W (.slice (some ⟨g5,0,none⟩) r.ins.length cap5) r.ins→Calls Tryz.prog 89 #[.slice (some ⟨g5,0,none⟩) r.ins.length cap5,S []] W (RetS (I (-1)) W)):=Q0 (fun W h=>by
       have:=Z4q W _ r.ins [] h
       rwa [Zdc (fun x hx=>(HOK.out.ins x hx).1)]at this)
      obtain⟨gb,hgb⟩:∃gb,gb=w.heap.size:=⟨_,rfl⟩;rw[←hgb]at HG6 HRG g0 g1 g2 g3 s0 s1 s2 s3 ⊢;have HGB:=Q0 hgb;clear hgb;obtain⟨hcf,hof⟩:=Za3 (a':=S r.out) (b':=S r.kind) (c':=S []) (d':=.slice (some ⟨g5,0,none⟩) r.ins.length cap5) HG6.out;have hne:rb≠gb:=by have:=HRG.out;omega
      have n0:=hof.cellOf b0 hne;have n1:=hof.cellOf b1 hne;have n2:=hof.cellOf b2 hne;have n3:=hof.cellOf b3 hne;have HF0:=Q0 ((Z00 hcf 0).trans (rfl:_=some (S r.out)));have HF1:=Q0 ((Z00 hcf 1).trans (rfl:_=some (S r.kind)));have HF2:=Q0 ((Z00 hcf 2).trans (rfl:_=some (S [])));have HF3:=Q0 ((Z00 hcf 3).trans (rfl:_=some (Value.slice (some ⟨g5,0,none⟩) r.ins.length cap5)));have HFR:Hid (Row wr.heap.size (((((w6.setCell ⟨gb,0,none⟩ (S r.out)).setCell ⟨gb,1,none⟩ (S r.kind)).setCell ⟨gb,2,none⟩ (S [])).setCell ⟨gb,3,none⟩ (.slice (some ⟨g5,0,none⟩) r.ins.length cap5))) (.slice (some ⟨g5,0,none⟩) r.ins.length cap5) r.ins):=Q0 (hof.row HR6.out (fun i e e2=>by have:=(HR6.out.lt i e).1;have:=HGL.out;have:=HGB.out;omega))
      have HFX:=Q0 (HX6.out.trans hof (fun _ _ h=>h) (fun i hi e=>by have:=HGB.out;omega))
      have HNS:=Q0 (And.intro n0 (And.intro n1 (And.intro n2 n3)));clear hcf hof hne n0 n1 n2 n3;go_region_held3 (fun w'=>w'.cell? ⟨rb,0,none⟩=some (S r.out)∧w'.cell? ⟨rb,1,none⟩=some (S r.kind)∧w'.cell? ⟨rb,2,none⟩=some (S [])∧w'.cell? ⟨rb,3,none⟩=some (Value.slice (some ⟨g5,0,none⟩) r.ins.length cap5)) (first|exact⟨b0,b1,b2,b3⟩|exact HNS.out|go_keep)
       ((go_at_call 89;refine(HIX.out _ (HR6.out.rd.ext (by first|exact Only.refl _ _|exact Only.drew _ _|exact Only.drewN _ _ _))).mono ?_;rintro e w7 ⟨rfl,rfl⟩))
      all_goals
       go_wp2_with fail;exact bodyPost_ret (v:=.tuple #[.agg #[S r.out,S r.kind,S [],.slice (some ⟨g5,0,none⟩) r.ins.length cap5],.bool true]) (Z70 _ _ gb _ _ _ _ rfl rfl HF0.out HF1.out HF2.out HF3.out) rfl ⟨_,by rw[HWD.out],Row.down (HFR.out.ext (Only.drew _ _)) (Nat.le_of_lt HGL.out),HFX.out.thenDrew⟩
     case neg=>
      have hT:T=32 :: 34 :: (r.word++34 :: 32 :: J):=by rw[HT.out];unfold wordB;rw[if_neg hwd];simp
      have HWN:Hid ((r.word==[])=false):=Q0 (Q3 hwd)
      have HPB:Hid (r.out.length+3+r.kind.length=p):=Q0 hpe.symm
      have h32:s[p]?=some 32:=by rw[hpe];exact HTA.out 0 32 (by rw[hT];rfl)
      have h33:s[p+1]?=some 34:=by
       rw[hpe];exact HTA.out 1 34 (by rw[hT];rfl)
      have HWC:Hid (∀(k:Nat)(c:UInt8),r.word[k]?=some c→s[p+2+k]?=some c∧c≠34∧c≠92):=Q0 (fun k c hk=>⟨by
       have h1:=HTA.out (2+k) c (by rw[hT,show 2+k=k+1+1 by omega,List.getElem?_cons_succ,List.getElem?_cons_succ];exact Zjh hk)
       rw[HPB.out]at h1
       rwa [Nat.add_assoc],HOK.out.word c (Q4 hk)⟩)
      have HWQ:Hid (s[p+2+r.word.length]?=some 34):=Q0 (by
       have h1:=HTA.out (2+r.word.length) 34 (by rw[hT,show 2+r.word.length=r.word.length+1+1 by omega,List.getElem?_cons_succ,List.getElem?_cons_succ,List.getElem?_append_right (Nat.le_refl _),Nat.sub_self];rfl)
       rw[HPB.out]at h1
       rwa [Nat.add_assoc])
      have HWR:Hid (s[p+3+r.word.length]?=some 32):=Q0 (by
       have h1:=HTA.out (3+r.word.length) 32 (by rw[hT,show 3+r.word.length=r.word.length+1+1+1 by omega,List.getElem?_cons_succ,List.getElem?_cons_succ,Zd8];rfl)
       rw[HPB.out]at h1
       rwa [Nat.add_assoc])
      have HWD2:Hid (s.drop (p+3+r.word.length+1)=J):=Q0 (by
       rw[HS.out,←HPB.out,hT];rw[show r.out.length+3+r.kind.length+3+r.word.length+1=(r.out++([32,61,32]++(r.kind++(32 :: 34 :: (r.word++[34,32]))))).length by simp;omega]
       rw[show r.out++([32,61,32]++(r.kind++32 :: 34 :: (r.word++34 :: 32 :: J)))=(r.out++([32,61,32]++(r.kind++(32 :: 34 :: (r.word++[34,32])))))++J by simp]
       exact List.drop_left)
      obtain⟨p1,hp1⟩:∃p1,p1=p+1:=⟨_,rfl⟩;rw[←hp1]at h33;have hg:=Z3x h32;have hg1:=Z3x h33;have hz:(((32:UInt8).toNat:Int)==32)=true:=rfl;have hz1:(((34:UInt8).toNat:Int)==34)=true:=rfl;have hp1z:(p:Int)+1=(p1:Int):=by omega
      have hp1l:(p1:Int)<(s.length:Int):=by have:=(Q2 h33).1;omega
      have q0:(0:Int)≤(p:Int):=by omega
      have q01:(0:Int)≤(p1:Int):=by omega
      have HWL:Hid (r.word.length≤200):=Q0 HOK.out.lw;have HP0:Hid (p<s.length):=Q0 hpl;clear hT hpe hpl hp1 h32 h33 hwd HP;go_wp2_with fail;clear hg hg1 hz hz1 hp1z hp1l q0 q01;go_loopw [4,7] (fun i _ wx=>∃(k q:Nat),k≤r.word.length∧i=.int .i64 q∧Hid (q=p+2+k)∧Hid (Ext w wx)∧Hid (wx.heap[w.heap.size]?=some (.cells #[S [],S [],S [],.slice none 0 0] 55 (0,0)))∧Hid (wx.heap[rb]?=some (.cells #[S r.out,S r.kind,S (r.word.take k),.slice none 0 0] 55 (0,0)))) (fun i _ _=>p+2+r.word.length-(intOf i).toNat)
      case atStart=>exact⟨0,p+2,Nat.zero_le _,by first|rfl|go_num|simp,Q0 rfl,HX,HG,HB⟩
      case round=>
       clear HX HG HB;obtain⟨k,q,hk,rfl,HQ,HX,HG,HB⟩:=hrel;have hqe:=HQ.out;have hql:q<s.length:=by have:=(Q2 HWR.out).1;omega
       have hqlz:(q:Int)<(s.length:Int):=by omega
       have hq0:(0:Int)≤(q:Int):=by omega
       by_cases hlt:k<r.word.length
       case pos=>
        obtain⟨c,hc⟩:∃y,r.word[k]?=some y:=⟨_,Q1 hlt⟩;obtain⟨hsc,hc34,hc92⟩:=HWC.out k c hc;rw[←hqe]at hsc;have hg:=Z3x hsc;have hz:((c.toNat:Int)==34)=false:=Zeu hc34;have hz2:((c.toNat:Int)==92)=false:=Zeu hc92;have hmd:=Z5s s q (q+1);rw[Zk6 hsc]at hmd;obtain⟨p1,hp1⟩:∃p1,p1=q+1:=⟨_,rfl⟩;rw[←hp1]at hmd;have hw:IntKind.i64.wrap ((q:Int)+1)=(p1:Int):=by rw[IntWalk.i64_in _ (by omega)];omega
        have q0:(0:Int)≤(p1:Int):=by omega
        have q1:(q:Int)≤(p1:Int):=by omega
        have q2:(p1:Int)≤(s.length:Int):=by omega
        have q3:q≤p1:=by omega
        have HP1:=Q0 hp1;have HTK:Hid (r.word.take (k+1)=r.word.take k++[c]):=Q0 (by rw[List.take_add_one,hc];rfl)
        have htk:(r.word.take k).length≤200:=by rw[List.length_take];have:=HWL.out;omega
        have HKK:=Q0 hlt;generalize r.word.take k=kt at HB HTK htk;have hba:=Z1e kt [c];have hl1:¬9223372036854775807<kt.length+1:=by omega
        have c1:=(Z00 HB.out 2).trans (rfl:_=some (S kt));have f1:=Z02 HB.out 2;clear hc hsc hc34 hc92 hk hlt hqe htk hql hp1;go_wp2_with fail;go_region_law (fail);have hso1:Only (fun i=>i=rb) wr (wr.setCell ⟨rb,2,none⟩ (S (kt++[c]))).drew:=(Only.set (p:=fun i=>i=rb) _ rfl).thenDrew
        have HXN:Hid (Ext w (wr.setCell ⟨rb,2,none⟩ (S (kt++[c]))).drew):=Q0 (HX.out.trans hso1 (fun _ _ h=>h) (fun i hi e=>by have:=HRG.out;omega))
        have HGN:=Q0 (hso1.heapOf HG.out (by have:=HRG.out;omega))
        have HBN:Hid ((wr.setCell ⟨rb,2,none⟩ (S (kt++[c]))).drew.heap[rb]?=some (.cells #[S r.out,S r.kind,S (kt++[c]),.slice none 0 0] 55 (0,0))):=Q0 (Z01 HB.out 2 (S (kt++[c])))
        clear hso1;go_wp2_with fail;go_roundw
        case rel=>exact⟨k+1,p1,HKK.out,by first|rfl|(rw[HP1.out];go_num),Q0 (by rw[HP1.out,HQ.out];omega),HXN,HGN,by rw[HTK.out];exact HBN⟩
        case measure=>have:=HP1.out;have:=HQ.out;have:=HKK.out;simp[intOf];omega
       case neg=>
        obtain rfl:k=r.word.length:=by omega
        rw[List.take_length]at HB;have hwn:=HWN.out;have hqq:s[q]?=some 34:=by rw[hqe];exact HWQ.out
        have hgq:=Z3x hqq;have hzq:(((34:UInt8).toNat:Int)==34)=true:=rfl;have c2:=(Z00 HB.out 2).trans (rfl:_=some (S r.word));have qn:¬(s.length:Int)≤(q:Int):=by omega
        obtain⟨p',hp'⟩:∃p',p'=q+1:=⟨_,rfl⟩;have hpz':(q:Int)+1=(p':Int):=by omega
        have H32:Hid (s[p']?=some 32):=Q0 (by rw[hp',hqe,show p+2+r.word.length+1=p+3+r.word.length by omega];exact HWR.out)
        have HDJ:Hid (s.drop (p'+1)=J):=Q0 (by rw[hp',hqe,show p+2+r.word.length+1=p+3+r.word.length by omega];exact HWD2.out)
        have hpl':p'<s.length:=(Q2 H32.out).1
        have HPP:Hid (q+1=p'):=Q0 hp'.symm
        obtain⟨p1,hp1⟩:∃p1,p1=p'+1:=⟨_,rfl⟩;have hp1z:(p':Int)+1=(p1:Int):=by omega
        clear hp' hqe hlt hk;have hg:=Z3x H32.out;have hz:(((32:UInt8).toNat:Int)==32)=true:=rfl;have q0:(0:Int)≤(p':Int):=by omega
        have q1:(p':Int)<(s.length:Int):=by omega
        have q2:¬(s.length:Int)≤(p':Int):=by omega
        have q3:(p1:Int)≤(s.length:Int):=by omega
        have q4:(0:Int)≤(p1:Int):=by omega
        have hmj:=Z5s s p1 s.length;rw[List.take_length,hp1,HDJ.out]at hmj;rw[←hp1]at hmj;have HCUT:=Q0 (fun W=>Z3c W 32 32 rfl J (by rw[HJ.out];have:=HOK.out.li;omega))
        have HCJ:Hid (cutc 32 J=r.ins):=Q0 (by rw[HJ.out];exact Z8h 32 _ HOK.out.ne fun x hx=>(HOK.out.ins x hx).2)
        rw[HCJ.out]at HCUT;clear hp1;go_wp2_with fail;refine(HCUT.out _).mono ?_;rintro e w5 ⟨g5,cap5,rfl,hrow,ho5⟩;have hb5:=ho5.heapOf HB.out (fun h=>h)
        have hg5:=ho5.heapOf HG.out (fun h=>h)
        have hx5:=HX.out.then ho5;have f3:=Z02 hb5 3;have c3:=(Z00 hb5 3).trans (rfl:_=some (Value.slice none 0 0));have hset:Only (fun i=>i=rb) w5 (w5.setCell ⟨rb,3,none⟩ (.slice (some ⟨g5,0,none⟩) r.ins.length cap5)):=Only.set (p:=fun i=>i=rb) _ rfl
        have HB6:Hid ((w5.setCell ⟨rb,3,none⟩ (.slice (some ⟨g5,0,none⟩) r.ins.length cap5)).heap[rb]?=some (.cells #[S r.out,S r.kind,S r.word,.slice (some ⟨g5,0,none⟩) r.ins.length cap5] 55 (0,0))):=Q0 (Z01 hb5 3 _)
        have HG6:=Q0 (hset.heapOf hg5 (by have:=HRG.out;omega))
        have HX6:Hid (Ext w (w5.setCell ⟨rb,3,none⟩ (.slice (some ⟨g5,0,none⟩) r.ins.length cap5))):=Q0 (hx5.trans hset (fun _ _ h=>h) (fun i hi e=>by have:=HRG.out;omega))
        have HGL:Hid (w.heap.size<wr.heap.size):=Q0 (Z03 HG.out);have HR6:Hid (Row wr.heap.size (w5.setCell ⟨rb,3,none⟩ (.slice (some ⟨g5,0,none⟩) r.ins.length cap5)) (.slice (some ⟨g5,0,none⟩) r.ins.length cap5) r.ins):=Q0 (hset.row hrow (fun i e e2=>by
         have:=(hrow.lt i e).1
         have h2:=Z03 HB.out;omega))
        clear hb5 hg5 hx5 hset hrow ho5 hg hz q0 q1 q2 q3 q4 hmj;obtain⟨w6,hw6⟩:∃w6,w6=w5.setCell ⟨rb,3,none⟩ (.slice (some ⟨g5,0,none⟩) r.ins.length cap5):=⟨_,rfl⟩;rw[←hw6]at HB6 HG6 HX6 HR6;have HW6:=Q0 hw6.symm;clear hw6;go_wp2_with fail;rw[HW6.out];have b0:=(Z00 HB6.out 0).trans (rfl:_=some (S r.out));have b1:=(Z00 HB6.out 1).trans (rfl:_=some (S r.kind));have b2:=(Z00 HB6.out 2).trans (rfl:_=some (S r.word));have b3:=(Z00 HB6.out 3).trans (rfl:_=some (Value.slice (some ⟨g5,0,none⟩) r.ins.length cap5));have g0:=Z02 HG6.out 0;have g1:=Z02 HG6.out 1;have g2:=Z02 HG6.out 2;have g3:=Z02 HG6.out 3;have s0:=(Z00 HG6.out 0).trans (rfl:_=some (S []));have s1:=(Z00 HG6.out 1).trans (rfl:_=some (S []));have s2:=(Z00 HG6.out 2).trans (rfl:_=some (S []));have s3:=(Z00 HG6.out 3).trans (rfl:_=some (Value.slice none 0 0));clear c3 f3;have HIX:Hid (∀W,Rd S W (.slice (some ⟨g5,0,none⟩) r.ins.length cap5) r.ins→Calls Tryz.prog 89 #[.slice (some ⟨g5,0,none⟩) r.ins.length cap5,S []] W (RetS (I (-1)) W)):=Q0 (fun W h=>by
         have:=Z4q W _ r.ins [] h
         rwa [Zdc (fun x hx=>(HOK.out.ins x hx).1)]at this)
        obtain⟨gb,hgb⟩:∃gb,gb=w.heap.size:=⟨_,rfl⟩;rw[←hgb]at HG6 HRG g0 g1 g2 g3 s0 s1 s2 s3 ⊢;have HGB:=Q0 hgb;clear hgb;obtain⟨hcf,hof⟩:=Za3 (a':=S r.out) (b':=S r.kind) (c':=S r.word) (d':=.slice (some ⟨g5,0,none⟩) r.ins.length cap5) HG6.out;have hne:rb≠gb:=by have:=HRG.out;omega
        have n0:=hof.cellOf b0 hne;have n1:=hof.cellOf b1 hne;have n2:=hof.cellOf b2 hne;have n3:=hof.cellOf b3 hne;have HF0:=Q0 ((Z00 hcf 0).trans (rfl:_=some (S r.out)));have HF1:=Q0 ((Z00 hcf 1).trans (rfl:_=some (S r.kind)));have HF2:=Q0 ((Z00 hcf 2).trans (rfl:_=some (S r.word)));have HF3:=Q0 ((Z00 hcf 3).trans (rfl:_=some (Value.slice (some ⟨g5,0,none⟩) r.ins.length cap5)));have HFR:Hid (Row wr.heap.size (((((w6.setCell ⟨gb,0,none⟩ (S r.out)).setCell ⟨gb,1,none⟩ (S r.kind)).setCell ⟨gb,2,none⟩ (S r.word)).setCell ⟨gb,3,none⟩ (.slice (some ⟨g5,0,none⟩) r.ins.length cap5))) (.slice (some ⟨g5,0,none⟩) r.ins.length cap5) r.ins):=Q0 (hof.row HR6.out (fun i e e2=>by have:=(HR6.out.lt i e).1;have:=HGL.out;have:=HGB.out;omega))
        have HFX:=Q0 (HX6.out.trans hof (fun _ _ h=>h) (fun i hi e=>by have:=HGB.out;omega))
        have HNS:=Q0 (And.intro n0 (And.intro n1 (And.intro n2 n3)));clear hcf hof hne n0 n1 n2 n3;go_region_held3 (fun w'=>w'.cell? ⟨rb,0,none⟩=some (S r.out)∧w'.cell? ⟨rb,1,none⟩=some (S r.kind)∧w'.cell? ⟨rb,2,none⟩=some (S r.word)∧w'.cell? ⟨rb,3,none⟩=some (Value.slice (some ⟨g5,0,none⟩) r.ins.length cap5)) (first|exact⟨b0,b1,b2,b3⟩|exact HNS.out|go_keep)
         ((go_at_call 89;refine(HIX.out _ (HR6.out.rd.ext (by first|exact Only.refl _ _|exact Only.drew _ _|exact Only.drewN _ _ _))).mono ?_;rintro e w7 ⟨rfl,rfl⟩))
        all_goals
         go_wp2_with fail;exact bodyPost_ret (v:=.tuple #[.agg #[S r.out,S r.kind,S r.word,.slice (some ⟨g5,0,none⟩) r.ins.length cap5],.bool true]) (Z70 _ _ gb _ _ _ _ rfl rfl HF0.out HF1.out HF2.out HF3.out) rfl ⟨_,rfl,Row.down (HFR.out.ext (Only.drew _ _)) (Nat.le_of_lt HGL.out),HFX.out.thenDrew⟩
end Go.Proofs.YtnmhaipjfpongacGreatDoor
