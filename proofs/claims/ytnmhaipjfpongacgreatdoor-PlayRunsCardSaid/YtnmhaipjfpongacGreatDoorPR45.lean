/- A part of this claim's proof;each theorem bears its own conditions. -/
import Derived.Test.YtnmhaipjfpongacGreatDoorPR44
set_option maxRecDepth 100000
set_option maxHeartbeats 16000000
namespace Go.Proofs.YtnmhaipjfpongacGreatDoor
open Go.ChangeShapes Go.WideShapes Go.ChangeAt Go.RowKit
section
variable {w0 w:World}{D:Nat→Prop}{n:Nat}{tv ov lv cv:Value}{many:Nat}{T O L:FL}{l:List Rule}
theorem Zlc(h:Z09 w0 w D n tv ov lv cv many T O L l)(hof:(Z0i l).1=0)(hT:Z2l T)(hO:Z2l O) :
    Calls Tryz.prog 75 #[PTR (n+3)] w (Zhi (Z0m (Z26 l T O)) w):=by
  obtain⟨hR,hOr⟩:=Z0k hof;have hsh:=Z29 hR;have h40:=hR.1;have hord:=(Z1v hOr).1;have HIW:Hid (∀r∈l,r.ins.length≤12∧r.word.length≤1000):=Q0 (fun r hr=>⟨(hsh r hr).many,by have:=(hsh r hr).word;omega⟩)
  have HH:=Q0 h;have HTB:=Q0 hT.bytes;have HTF:Hid (T.length≤1000000):=Q0 (by have:=hT.fits.few;omega)
  have HOF:Hid (O.length≤1000000):=Q0 (by have:=hO.fits.few;omega)
  obtain⟨al,cl,hlv,_,_,_⟩:=h.rd;subst hlv;have hlz:(l.length:Int)≤40:=by omega
  have HWT:Hid (∀p∈l.map Rule.out,∀wq,Ext w wq→Calls Tryz.prog 22 #[PTR n,.slice al l.length cl,S p] wq (Zl1 (Z3t l T p) wq)):=Q0 (fun p hp wq hx=>by
    have hin:InO l (Z18 l) p:=fun k hk=>Z2v hOr (List.findIdx?_eq_some_iff_getElem.1 hk).1 rfl
    exact Zf9 w n tv (.slice al l.length cl) l T (Z3t l T) (InO l (Z18 l)) (Zdq l (Z18 l)) (Zbr (Z3p hord).1 (Z3p hord).2 hT.bytes) (fun p=>Z6h hT.bytes _ p) h.rd (by omega) (fun r hr=>HIW.out r hr) h.tree.cells h.tree.rd HTF.out (l.length+1) p hin (Nat.lt_succ_of_le ((Z3p hord).2 p hin)) wq hx)
  obtain⟨os,hos⟩:∃os,os=l.map Rule.out:=⟨_,rfl⟩;have HOS:=Q0 hos;have HOL:Hid (os.length=l.length):=Q0 (by rw[hos,List.length_map])
  obtain⟨ss,hss⟩:∃ss,ss=Z0m (Z26 l T O):=⟨_,rfl⟩;rw[←hss];have HSS:Hid (ss=Z0m (os.filter (Z16 l T O))):=Q0 (by rw[hss,hos];rfl)
  clear h hR hOr hsh hord hT hO hos hss hof;go_enter Tryz.func75,Tryz.ntmps75;go_wp2_with fail;go_loopw [3,4] (fun q i wr=>∃(j:Nat)(qv:Value),qv=q∧j≤l.length∧i=.int .i64 j∧Hid (Row w.heap.size wr qv (Z0m ((os.take j).filter (Z16 l T O))))∧Hid (Ext w wr)) (fun _ i _=>l.length-(intOf i).toNat)
  case atStart=>exact⟨0,_,rfl,Nat.zero_le _,rfl,Q0 (by
    have:Z0m ((os.take 0).filter (Z16 l T O))=[]:=by rw[List.take_zero];exact List.mergeSort_nil
    rw[this];exact Row.nil _ _),Q0 (Only.refl _ _)⟩
  case round=>
    obtain⟨j,qv,rfl,hj,rfl,HQ,HX⟩:=hrel;have hyr:=HH.out.grow HX.out;have k0:=(hyr.cell 0).trans (rfl:_=some (PTR n));have k2:=(hyr.cell 2).trans (rfl:_=some (Value.slice al l.length cl));by_cases hlt:j<l.length
    case neg=>
      have hltz:¬(j:Int)<(l.length:Int):=by omega
      rw[List.take_of_length_le (by have:=HOL.out;omega),←HSS.out]at HQ
      clear hyr;go_wp2_with fail;go_ret;exact⟨_,rfl,HX.out,HQ.out⟩
    case pos=>
      have hltz:(j:Int)<(l.length:Int):=by omega
      have hj0:(0:Int)≤(j:Int):=by omega
      obtain⟨_,_,ee,_,_,hc0⟩:=hyr.rd;cases ee;obtain⟨b,off,rfl,hcell⟩:=hc0 (by intro h;rw[h]at hlt;simp at hlt)
      obtain⟨r,hq⟩:∃y,l[j]?=some y:=⟨_,Q1 hlt⟩;obtain⟨u,hu,c0,c1,c2,c3⟩:=hcell j r hq;have hp:os[j]?=some r.out:=by rw[HOS.out,List.getElem?_map,hq];rfl
      obtain⟨p,hpe⟩:∃p,p=r.out:=⟨_,rfl⟩;rw[←hpe]at c0 hp;have HWA:=Q0 (HWT.out p (by rw[←HOS.out];exact Q4 hp))
      have HTK:Hid ((os.take (j+1)).filter (Z16 l T O)=(os.take j).filter (Z16 l T O)++if Z16 l T O p then [p]else []):=Q0 (by rw[List.take_add_one,hp];simp[List.filter_append,List.filter_cons])
      have HQL:Hid (((os.take j).filter (Z16 l T O)).length≤900000):=Q0 (by have:=List.length_filter_le (Z16 l T O) (os.take j);rw[List.length_take]at this;omega)
      have HJ:=Q0 hlt;have HYR:=Q0 hyr;have HK0:=Q0 k0;have HK2:=Q0 k2;have HSP:Hid (Z16 l T O p=(((O.lookup p).isSome != ((Z3t l T p).2==0)) || ((O.lookup p).isSome&&(O.lookup p).getD [] != (Z3t l T p).1))):=Q0 rfl;have HTLD:Hid (Zjj (Z3t l T p)):=Q0 (Z6h HTB.out _ p);generalize (os.take j).filter (Z16 l T O)=qs at HQ HTK HQL;generalize Z16 l T O p=st at HTK HSP;generalize Z3t l T p=wx at HWA HSP HTLD;obtain⟨ws,wc⟩:=wx;clear hcell hp hyr hj hlt hq hu c1 c2 c3 hc0 hpe;go_upto_region 6 with fail;go_region_held3 (fun w'=>w'.cell? ⟨n+3,0,none⟩=some (PTR n)∧w'.cell? ⟨n+3,2,none⟩=some (.slice (some ⟨b,off,none⟩) l.length cl)) (first|exact⟨HX3.out.cellOf HK0.out (fun h=>h),HX3.out.cellOf HK2.out (fun h=>h)⟩|exact⟨k0,k2⟩|go_keep)
        ((go_at_call 22;refine(HWA.out _ (by first|exact HX.out|exact HX.out.thenDrew|exact HX.out.thenDrewN _)).mono ?_;rintro e w3 ⟨rfl,hx3⟩;have HX3:Hid (Ext wr w3):=Q0 (Only.ext (by first|exact Only.refl _ _|exact Only.drew _ _|exact Only.drewN _ _ _) hx3);clear hx3))
      all_goals
        have hy3:=HYR.out.grow HX3.out;have k1:=(hy3.cell 1).trans (rfl:_=some (PTR (n+1)));have HFN:=Q0 (Z4a w3 (n+1) ov O p hy3.out.cells hy3.out.rd HOF.out);have HROW3:Hid (Row w.heap.size w3 qv (Z0m qs)):=Q0 (HX3.out.row HQ.out (fun _ _ h=>h))
        have HXW3:=Q0 (HX.out.then HX3.out);clear HWA k0 c0 HK0;by_cases hst:st=true
        case neg=>
          have hst0:st=false:=by simpa using hst
          subst hst0;have HTK2:Hid ((os.take (j+1)).filter (Z16 l T O)=qs):=Q0 (by rw[HTK.out,if_neg (by decide),List.append_nil])
          clear HTK hst;rcases Za4 O p with⟨k,q,h1,h2,h3⟩|⟨h1,h3⟩
          · rw[h1]at HFN
            rw[h3]at HSP;have hsp:=HSP.out;simp at hsp;obtain⟨hwc,hqe⟩:=hsp;subst hwc;have hbe:(q.2==ws)=true:=by rw[hqe];exact beq_self_eq_true _
            have m0:=(Z00 hy3.out.cells 0).trans (rfl:_=some ov);obtain⟨aT,cT,hsl,_,_,hcT⟩:=hy3.out.rd;have hkl:=(Q2 h2).1;obtain⟨bT,oT,rfl,hcellT⟩:=hcT (by intro h;rw[h]at hkl;simp at hkl)
            subst hsl;have t1:=hcellT k q h2 1 (S q.2) rfl;have hkz:(k:Int)<(O.length:Int):=by omega
            have hk1:(0:Int)≤(k:Int):=by omega
            have hk2:¬(O.length:Int)≤(k:Int):=by omega
            have hk3:¬(k:Int)<0:=by omega
            clear h1 h2 h3 hqe hcT hcellT hkl hy3;go_wp2_with fail;refine HFN.out.mono ?_;rintro e w4 ⟨rfl,rfl⟩;go_wp2_with fail;go_roundw
            case rel=>exact⟨j+1,_,rfl,HJ.out,by go_num,by rw[HTK2.out];exact HROW3,HXW3⟩
            case measure=>have:=HJ.out;simp[intOf];omega
          · rw[h1]at HFN
            rw[h3]at HSP;have hsp:=HSP.out;simp at hsp;have hwz:(0:Int)<(wc:Int):=by omega
            clear h1 h3 hsp hy3;go_wp2_with fail;refine HFN.out.mono ?_;rintro e w4 ⟨rfl,rfl⟩;go_wp2_with fail;go_roundw
            case rel=>exact⟨j+1,_,rfl,HJ.out,by go_num,by rw[HTK2.out];exact HROW3,HXW3⟩
            case measure=>have:=HJ.out;simp[intOf];omega
        case pos=>
          subst hst;have HTK2:Hid (Z0m ((os.take (j+1)).filter (Z16 l T O))=Z0m (Z0m qs++[p])):=Q0 (by
            rw[HTK.out,if_pos rfl];exact Zch ((List.mergeSort_perm _ _).symm.append_right [p]))
          have HPW:=Q0 (Z3k qs);have HSL:Hid ((Z0m qs).length≤900000):=Q0 (by rw[Z5v];exact HQL.out)
          clear HTK HQ HQL;generalize Z0m qs=ls at HROW3 HTK2 HPW HSL;have hgo:(∃(k:Nat)(q:B×B),fndT O p=(k:Int)∧O[k]?=some q∧O.lookup p=some q.2∧(wc≠0∨(wc=0∧(q.2==ws)=false)))∨(fndT O p=-1∧wc=0):=by
            rcases Za4 O p with⟨k,q,h1,h2,h3⟩|⟨h1,h3⟩
            · refine .inl ⟨k,q,h1,h2,h3,?_⟩
              by_cases hw:wc=0
              · refine .inr ⟨hw,?_⟩
                have hsp:=HSP.out;rw[h3]at hsp;simp[hw]at hsp;exact Q3 hsp
              · exact .inl hw
            · refine .inr ⟨h1,?_⟩
              have hsp:=HSP.out;rw[h3]at hsp;simpa using hsp
          clear HSP HTLD;rcases hgo with⟨k,q,h1,h2,h3,hwq⟩|⟨h1,rfl⟩
          rotate_left
          · rw[h1]at HFN
            clear h1 hy3;go_wp2_with fail;refine HFN.out.mono ?_;rintro e w4 ⟨rfl,rfl⟩;go_upto_region 12 with fail;rcases Row.cases HROW3.out with⟨rfl,rfl⟩|⟨g,cap,rfl⟩
            · have hso:=Z2p (l:=[]) (s:=p) (k:=0) (by simp) (by simp) (by simp) (by simp)
              simp only[List.take_nil,List.drop_nil,List.append_nil,List.nil_append]at hso;have HSO:Hid (Z0m ((os.take (j+1)).filter (Z16 l T O))=[p]):=Q0 (HTK2.out.trans hso);have HNZ:Hid (Row w3.heap.size w3 (.slice none 0 0) []):=Q0 (Row.nil _ _);clear hso HTK2 HPW HSL;go_wp2_with fail;go_loop [10] (fun i=>i=.int .i64 0) (fun i=>(intOf i).toNat)
              case atStart=>rfl
              case round=>
                subst hrel;go_wp2_with (first
                  | (at_builtin;refine Z22 rfl (.tmp 89) (.tmp 92) w3 w3.heap.size _ (.slice none 0 0) [] [] w3 rfl rfl rfl rfl HNZ.out.rd HNZ.out.nz HNZ.out (by simp) (Nat.le_refl _) (Only.refl _ _) (Nat.le_refl _) ?_;intro a1 m1 c1 w5 hm1 HR1 HX5 _;clear hm1)
                  | (at_builtin;refine Z2t rfl (.tmp 94) (.tmp 96) w3 w3.heap.size _ [] p w5 rfl rfl rfl rfl HR1.out (by simp) HX5.out.size HX5.out (Nat.le_refl _) ?_;intro g2 c2 w6 HR2 HX6 _)
                  | (at_builtin;refine Z22 rfl (.tmp 98) (.tmp 101) w3 w3.heap.size _ (.slice none 0 0) [p] [] w6 rfl rfl rfl rfl (Row.nil w3.heap.size w6).rd (Row.nil w3.heap.size w6).nz HR2.out (by simp) HX6.out.size HX6.out (Nat.le_refl _) ?_;intro a3 m3 c3 w7 hm3 HR3 HX7 _;clear hm3))
                go_roundw
                case rel=>
                  first
                    | exact⟨j+1,_,rfl,HJ.out,by go_num,Q0 (by rw[HSO.out];exact Row.down (by simpa using HR3.out) HXW3.out.size),Q0 (HXW3.out.then HX7.out)⟩
                    | (repeat apply Exists.intro
                       refine⟨?_,rfl⟩;exact⟨j+1,_,rfl,HJ.out,by go_num,Q0 (by rw[HSO.out];exact Row.down (by simpa using HR3.out) HXW3.out.size),Q0 (HXW3.out.then HX7.out)⟩)
                case measure=>have:=HJ.out;simp[intOf];omega
            · have HRD:=Q0 HROW3.out.rd
              obtain⟨_,_,hv,hcap,hm,hc⟩:=HROW3.out.rd;cases hv;have hcapz:(ls.length:Int)≤(cap:Int):=by omega
              have HNZ:Hid (Row w3.heap.size w3 (.slice none 0 0) []):=Q0 (Row.nil _ _);have HC:Hid (∀(i:Nat) x,ls[i]?=some x→w3.cell? ⟨g,i,none⟩=some (S x)):=Q0 (fun i x hx=>by
                obtain⟨b,off,e,h⟩:=hc (by intro e;rw[e]at hx;simp at hx)
                cases e;simpa using h i x hx)
              clear hm hc;go_upto_block 2 with fail;go_cut [10] (fun v wx=>wx=w3∧∃k:Nat,k≤ls.length∧v=.int .i64 k∧Hid (Z0m (ls++[p])=ls.take k++[p]++ls.drop k))
              case first=>
                go_wp2_with fail;go_loopw [10] (fun i wx=>wx=w3∧∃k:Nat,k≤ls.length∧i=.int .i64 k∧Hid (∀(j:Nat) x,k≤j→ls[j]?=some x→p<x)) (fun i _=>(intOf i).toNat)
                case atStart=>exact⟨rfl,ls.length,Nat.le_refl _,rfl,Q0 (fun j x h hx=>by have:=(Q2 hx).1;omega)⟩
                case round=>
                  obtain⟨rfl,k,hk,rfl,HG⟩:=hrel;have hk0:(0:Int)≤(k:Int):=by omega
                  by_cases hk1:k=0
                  · subst hk1
                    have HSO:=Q0 (Z2p HPW.out hk HG.out (fun j x h=>by omega))
                    go_wp2_with fail;go_meet
                    exact⟨rfl,0,hk,rfl,HSO⟩
                  · obtain⟨k',hkk⟩:∃k',k=k'+1:=⟨k-1,by omega⟩
                    obtain⟨x,hx⟩:∃x,ls[k']?=some x:=⟨_,Q1 (by omega)⟩
                    have d0:=HC.out k' x hx;have hwk:IntKind.i64.wrap ((k:Int)-1)=(k':Int):=by rw[show (k:Int)-1=(k':Int) by omega];exact IntWalk.i64_in _ (by have:=HSL.out;omega)
                    have hp:(0:Int)<(k:Int):=by omega
                    have hk2:(k':Int)<(ls.length:Int):=by omega
                    have hk3:(0:Int)≤(k':Int):=by omega
                    by_cases hlt:p<x
                    · have hbl:=bytesLess_eq x p
                      rw[decide_eq_false (List.lt_asymm hlt)]at hbl;have hbl2:=bytesLess_eq p x;rw[decide_eq_true hlt]at hbl2;have hne:(x==p)=false:=Q3 fun e=>Z42 _ (e ▸ hlt)
                      have HX9:=Q0 hx;have HLT:=Q0 hlt;have HM:=Q0 hkk;clear hx hlt hkk;clear hk1;go_wp2_with fail;go_roundw
                      case rel=>
                        have HNX:Hid (∀(j:Nat) y,k'≤j→ls[j]?=some y→p<y):=Q0 (fun j y hj hy=>by
                          rcases Nat.eq_or_lt_of_le hj with e|e
                          · subst e;rw[HX9.out]at hy;cases hy;exact HLT.out
                          · exact HG.out j y (by have:=HM.out;omega) hy)
                        first
                          | exact⟨trivial,k',by omega,rfl,HNX⟩
                          | exact⟨rfl,k',by omega,rfl,HNX⟩
                          | (repeat apply Exists.intro
                             refine⟨?_,rfl⟩;exact⟨rfl,k',by omega,rfl,HNX⟩)
                      case measure=>have:=HM.out;simp[intOf];omega
                    · have HSO:=Q0 (Z2p HPW.out hk HG.out (fun j y e hy=>by
                        obtain rfl:j=k':=by omega
                        rw[hx]at hy;cases hy;exact hlt))
                      have hor:(!Op.bytesLess x p&&!(x==p))=false:=by
                        rw[bytesLess_eq];by_cases e:x=p
                        · simp[e]
                        · have:x<p:=Classical.byContradiction fun h=>e (Zb7 h hlt)
                          simp[this]
                      clear hx hlt hk1 hkk;go_wp2_with fail
                      all_goals
                        go_meet
                        exact⟨rfl,k,hk,rfl,HSO⟩
              case rest=>
                obtain⟨rfl,k,hk,rfl,HSO⟩:=hcut;have hkl:(ls.take k).length=k:=by rw[List.length_take];omega
                have HHT:Hid (Rd S wc (.slice (some ⟨g,0,none⟩) k cap) (ls.take k)):=Q0 (Rd.takeS HRD.out k hk);have hk0:(0:Int)≤(k:Int):=by omega
                have hkz:(k:Int)≤(ls.length:Int):=by omega
                have hkc:(k:Int)≤(cap:Int):=by omega
                have hld:(ls.drop k).length=ls.length-k:=List.length_drop ..
                have HHL:Hid ((ls.take k).length+1+(ls.drop k).length≤1000000):=Q0 (by rw[hkl,hld];have:=HSL.out;omega)
                have HLD:=Q0 hld;have HKL:=Q0 hkl;clear hld hkl;go_wp2_with (first
                  | (at_builtin;refine Z22 rfl (.tmp 89) (.tmp 92) wc wc.heap.size _ (.slice (some ⟨g,0,none⟩) k cap) [] (ls.take k) wc rfl rfl rfl rfl HHT.out (by intro h;cases h) HNZ.out (by have:=HHL.out;simp only[List.length_nil];omega) (Nat.le_refl _) (Only.refl _ _) (Nat.le_refl _) ?_;intro a1 m1 c1 w5 hm1 HR1 HX5 _;clear hm1)
                  | (at_builtin;refine Z2t rfl (.tmp 94) (.tmp 96) wc wc.heap.size _ ([]++ls.take k) p w5 rfl rfl rfl rfl HR1.out (by have:=HHL.out;rw[List.nil_append];omega) HX5.out.size HX5.out (Nat.le_refl _) ?_;intro g2 c2 w6 HR0 HX6 _;have HR2:Hid (Row wc.heap.size w6 (.slice (some ⟨g2,0,none⟩) (k+1) c2) (ls.take k++[p])):=Q0 (by have:=HR0.out;rw[List.nil_append,HKL.out]at this;exact this))
                  | (at_builtin;generalize hAO:(if cap=k then some (⟨g,0,none⟩:Addr)else some ⟨g,k,none⟩)=ao;have hdr:=Rd.dropT (ao:=ao) HRD.out hk (by rw[Nat.zero_add];exact hAO);refine Z22 rfl (.tmp 98) (.tmp 101) wc wc.heap.size _ (.slice ao (ls.length-k) (cap-k)) (ls.take k++[p]) (ls.drop k) w6 rfl rfl rfl rfl (Rd.ext (HLD.out ▸ hdr.1) HX6.out) (fun h=>(Z9w h hdr.2).elim) HR2.out (by have:=HHL.out;rw[List.length_append,List.length_singleton];exact this) HX6.out.size HX6.out (Nat.le_refl _) ?_;intro a3 m3 c3 w7 hm3 HR3 HX7 _;clear hm3 hdr hAO))
                go_roundw
                case rel=>
                  have HEND:Hid (Row w.heap.size w7 (.slice a3 m3 c3) (Z0m ((os.take (j+1)).filter (Z16 l T O)))):=Q0 (by rw[HTK2.out,HSO.out];exact Row.down HR3.out HXW3.out.size)
                  first
                    | exact⟨j+1,_,rfl,HJ.out,by go_num,HEND,Q0 (HXW3.out.then HX7.out)⟩
                    | (repeat apply Exists.intro
                       refine⟨?_,rfl⟩;exact⟨j+1,_,rfl,HJ.out,by go_num,HEND,Q0 (HXW3.out.then HX7.out)⟩)
                case measure=>have:=HJ.out;simp[intOf];omega
          rcases hwq with hw|⟨rfl,hbe⟩
          · rw[h1]at HFN
            have hwz:(0:Int)<(wc:Int):=by omega
            have hk3:¬(k:Int)<0:=by omega
            clear h1 h2 h3 hy3 hw;go_wp2_with fail;refine HFN.out.mono ?_;rintro e w4 ⟨rfl,rfl⟩;go_upto_region 12 with fail;rcases Row.cases HROW3.out with⟨rfl,rfl⟩|⟨g,cap,rfl⟩
            · have hso:=Z2p (l:=[]) (s:=p) (k:=0) (by simp) (by simp) (by simp) (by simp)
              simp only[List.take_nil,List.drop_nil,List.append_nil,List.nil_append]at hso;have HSO:Hid (Z0m ((os.take (j+1)).filter (Z16 l T O))=[p]):=Q0 (HTK2.out.trans hso);have HNZ:Hid (Row w3.heap.size w3 (.slice none 0 0) []):=Q0 (Row.nil _ _);clear hso HTK2 HPW HSL;go_wp2_with fail;go_loop [10] (fun i=>i=.int .i64 0) (fun i=>(intOf i).toNat)
              case atStart=>rfl
              case round=>
                subst hrel;go_wp2_with (first
                  | (at_builtin;refine Z22 rfl (.tmp 89) (.tmp 92) w3 w3.heap.size _ (.slice none 0 0) [] [] w3 rfl rfl rfl rfl HNZ.out.rd HNZ.out.nz HNZ.out (by simp) (Nat.le_refl _) (Only.refl _ _) (Nat.le_refl _) ?_;intro a1 m1 c1 w5 hm1 HR1 HX5 _;clear hm1)
                  | (at_builtin;refine Z2t rfl (.tmp 94) (.tmp 96) w3 w3.heap.size _ [] p w5 rfl rfl rfl rfl HR1.out (by simp) HX5.out.size HX5.out (Nat.le_refl _) ?_;intro g2 c2 w6 HR2 HX6 _)
                  | (at_builtin;refine Z22 rfl (.tmp 98) (.tmp 101) w3 w3.heap.size _ (.slice none 0 0) [p] [] w6 rfl rfl rfl rfl (Row.nil w3.heap.size w6).rd (Row.nil w3.heap.size w6).nz HR2.out (by simp) HX6.out.size HX6.out (Nat.le_refl _) ?_;intro a3 m3 c3 w7 hm3 HR3 HX7 _;clear hm3))
                go_roundw
                case rel=>
                  first
                    | exact⟨j+1,_,rfl,HJ.out,by go_num,Q0 (by rw[HSO.out];exact Row.down (by simpa using HR3.out) HXW3.out.size),Q0 (HXW3.out.then HX7.out)⟩
                    | (repeat apply Exists.intro
                       refine⟨?_,rfl⟩;exact⟨j+1,_,rfl,HJ.out,by go_num,Q0 (by rw[HSO.out];exact Row.down (by simpa using HR3.out) HXW3.out.size),Q0 (HXW3.out.then HX7.out)⟩)
                case measure=>have:=HJ.out;simp[intOf];omega
            · have HRD:=Q0 HROW3.out.rd
              obtain⟨_,_,hv,hcap,hm,hc⟩:=HROW3.out.rd;cases hv;have hcapz:(ls.length:Int)≤(cap:Int):=by omega
              have HNZ:Hid (Row w3.heap.size w3 (.slice none 0 0) []):=Q0 (Row.nil _ _);have HC:Hid (∀(i:Nat) x,ls[i]?=some x→w3.cell? ⟨g,i,none⟩=some (S x)):=Q0 (fun i x hx=>by
                obtain⟨b,off,e,h⟩:=hc (by intro e;rw[e]at hx;simp at hx)
                cases e;simpa using h i x hx)
              clear hm hc;go_upto_block 2 with fail;go_cut [10] (fun v wx=>wx=w3∧∃k:Nat,k≤ls.length∧v=.int .i64 k∧Hid (Z0m (ls++[p])=ls.take k++[p]++ls.drop k))
              case first=>
                go_wp2_with fail;go_loopw [10] (fun i wx=>wx=w3∧∃k:Nat,k≤ls.length∧i=.int .i64 k∧Hid (∀(j:Nat) x,k≤j→ls[j]?=some x→p<x)) (fun i _=>(intOf i).toNat)
                case atStart=>exact⟨rfl,ls.length,Nat.le_refl _,rfl,Q0 (fun j x h hx=>by have:=(Q2 hx).1;omega)⟩
                case round=>
                  obtain⟨rfl,k,hk,rfl,HG⟩:=hrel;have hk0:(0:Int)≤(k:Int):=by omega
                  by_cases hk1:k=0
                  · subst hk1
                    have HSO:=Q0 (Z2p HPW.out hk HG.out (fun j x h=>by omega))
                    go_wp2_with fail;go_meet
                    exact⟨rfl,0,hk,rfl,HSO⟩
                  · obtain⟨k',hkk⟩:∃k',k=k'+1:=⟨k-1,by omega⟩
                    obtain⟨x,hx⟩:∃x,ls[k']?=some x:=⟨_,Q1 (by omega)⟩
                    have d0:=HC.out k' x hx;have hwk:IntKind.i64.wrap ((k:Int)-1)=(k':Int):=by rw[show (k:Int)-1=(k':Int) by omega];exact IntWalk.i64_in _ (by have:=HSL.out;omega)
                    have hp:(0:Int)<(k:Int):=by omega
                    have hk2:(k':Int)<(ls.length:Int):=by omega
                    have hk3:(0:Int)≤(k':Int):=by omega
                    by_cases hlt:p<x
                    · have hbl:=bytesLess_eq x p
                      rw[decide_eq_false (List.lt_asymm hlt)]at hbl;have hbl2:=bytesLess_eq p x;rw[decide_eq_true hlt]at hbl2;have hne:(x==p)=false:=Q3 fun e=>Z42 _ (e ▸ hlt)
                      have HX9:=Q0 hx;have HLT:=Q0 hlt;have HM:=Q0 hkk;clear hx hlt hkk;clear hk1;go_wp2_with fail;go_roundw
                      case rel=>
                        have HNX:Hid (∀(j:Nat) y,k'≤j→ls[j]?=some y→p<y):=Q0 (fun j y hj hy=>by
                          rcases Nat.eq_or_lt_of_le hj with e|e
                          · subst e;rw[HX9.out]at hy;cases hy;exact HLT.out
                          · exact HG.out j y (by have:=HM.out;omega) hy)
                        first
                          | exact⟨trivial,k',by omega,rfl,HNX⟩
                          | exact⟨rfl,k',by omega,rfl,HNX⟩
                          | (repeat apply Exists.intro
                             refine⟨?_,rfl⟩;exact⟨rfl,k',by omega,rfl,HNX⟩)
                      case measure=>have:=HM.out;simp[intOf];omega
                    · have HSO:=Q0 (Z2p HPW.out hk HG.out (fun j y e hy=>by
                        obtain rfl:j=k':=by omega
                        rw[hx]at hy;cases hy;exact hlt))
                      have hor:(!Op.bytesLess x p&&!(x==p))=false:=by
                        rw[bytesLess_eq];by_cases e:x=p
                        · simp[e]
                        · have:x<p:=Classical.byContradiction fun h=>e (Zb7 h hlt)
                          simp[this]
                      clear hx hlt hk1 hkk;go_wp2_with fail
                      all_goals
                        go_meet
                        exact⟨rfl,k,hk,rfl,HSO⟩
              case rest=>
                obtain⟨rfl,k,hk,rfl,HSO⟩:=hcut;have hkl:(ls.take k).length=k:=by rw[List.length_take];omega
                have HHT:Hid (Rd S wc (.slice (some ⟨g,0,none⟩) k cap) (ls.take k)):=Q0 (Rd.takeS HRD.out k hk);have hk0:(0:Int)≤(k:Int):=by omega
                have hkz:(k:Int)≤(ls.length:Int):=by omega
                have hkc:(k:Int)≤(cap:Int):=by omega
                have hld:(ls.drop k).length=ls.length-k:=List.length_drop ..
                have HHL:Hid ((ls.take k).length+1+(ls.drop k).length≤1000000):=Q0 (by rw[hkl,hld];have:=HSL.out;omega)
                have HLD:=Q0 hld;have HKL:=Q0 hkl;clear hld hkl;go_wp2_with (first
                  | (at_builtin;refine Z22 rfl (.tmp 89) (.tmp 92) wc wc.heap.size _ (.slice (some ⟨g,0,none⟩) k cap) [] (ls.take k) wc rfl rfl rfl rfl HHT.out (by intro h;cases h) HNZ.out (by have:=HHL.out;simp only[List.length_nil];omega) (Nat.le_refl _) (Only.refl _ _) (Nat.le_refl _) ?_;intro a1 m1 c1 w5 hm1 HR1 HX5 _;clear hm1)
                  | (at_builtin;refine Z2t rfl (.tmp 94) (.tmp 96) wc wc.heap.size _ ([]++ls.take k) p w5 rfl rfl rfl rfl HR1.out (by have:=HHL.out;rw[List.nil_append];omega) HX5.out.size HX5.out (Nat.le_refl _) ?_;intro g2 c2 w6 HR0 HX6 _;have HR2:Hid (Row wc.heap.size w6 (.slice (some ⟨g2,0,none⟩) (k+1) c2) (ls.take k++[p])):=Q0 (by have:=HR0.out;rw[List.nil_append,HKL.out]at this;exact this))
                  | (at_builtin;generalize hAO:(if cap=k then some (⟨g,0,none⟩:Addr)else some ⟨g,k,none⟩)=ao;have hdr:=Rd.dropT (ao:=ao) HRD.out hk (by rw[Nat.zero_add];exact hAO);refine Z22 rfl (.tmp 98) (.tmp 101) wc wc.heap.size _ (.slice ao (ls.length-k) (cap-k)) (ls.take k++[p]) (ls.drop k) w6 rfl rfl rfl rfl (Rd.ext (HLD.out ▸ hdr.1) HX6.out) (fun h=>(Z9w h hdr.2).elim) HR2.out (by have:=HHL.out;rw[List.length_append,List.length_singleton];exact this) HX6.out.size HX6.out (Nat.le_refl _) ?_;intro a3 m3 c3 w7 hm3 HR3 HX7 _;clear hm3 hdr hAO))
                go_roundw
                case rel=>
                  have HEND:Hid (Row w.heap.size w7 (.slice a3 m3 c3) (Z0m ((os.take (j+1)).filter (Z16 l T O)))):=Q0 (by rw[HTK2.out,HSO.out];exact Row.down HR3.out HXW3.out.size)
                  first
                    | exact⟨j+1,_,rfl,HJ.out,by go_num,HEND,Q0 (HXW3.out.then HX7.out)⟩
                    | (repeat apply Exists.intro
                       refine⟨?_,rfl⟩;exact⟨j+1,_,rfl,HJ.out,by go_num,HEND,Q0 (HXW3.out.then HX7.out)⟩)
                case measure=>have:=HJ.out;simp[intOf];omega
          · rw[h1]at HFN
            have m0:=(Z00 hy3.out.cells 0).trans (rfl:_=some ov);obtain⟨aT,cT,hsl,_,_,hcT⟩:=hy3.out.rd;have hkl:=(Q2 h2).1;obtain⟨bT,oT,rfl,hcellT⟩:=hcT (by intro h;rw[h]at hkl;simp at hkl)
            subst hsl;have t1:=hcellT k q h2 1 (S q.2) rfl;have hkz:(k:Int)<(O.length:Int):=by omega
            have hk1:(0:Int)≤(k:Int):=by omega
            have hk2:¬(O.length:Int)≤(k:Int):=by omega
            have hk3:¬(k:Int)<0:=by omega
            clear h1 h2 h3 hcT hcellT hkl hy3;go_wp2_with fail;refine HFN.out.mono ?_;rintro e w4 ⟨rfl,rfl⟩;go_upto_region 12 with fail;rcases Row.cases HROW3.out with⟨rfl,rfl⟩|⟨g,cap,rfl⟩
            · have hso:=Z2p (l:=[]) (s:=p) (k:=0) (by simp) (by simp) (by simp) (by simp)
              simp only[List.take_nil,List.drop_nil,List.append_nil,List.nil_append]at hso;have HSO:Hid (Z0m ((os.take (j+1)).filter (Z16 l T O))=[p]):=Q0 (HTK2.out.trans hso);have HNZ:Hid (Row w3.heap.size w3 (.slice none 0 0) []):=Q0 (Row.nil _ _);clear hso HTK2 HPW HSL;go_wp2_with fail;go_loop [10] (fun i=>i=.int .i64 0) (fun i=>(intOf i).toNat)
              case atStart=>rfl
              case round=>
                subst hrel;go_wp2_with (first
                  | (at_builtin;refine Z22 rfl (.tmp 89) (.tmp 92) w3 w3.heap.size _ (.slice none 0 0) [] [] w3 rfl rfl rfl rfl HNZ.out.rd HNZ.out.nz HNZ.out (by simp) (Nat.le_refl _) (Only.refl _ _) (Nat.le_refl _) ?_;intro a1 m1 c1 w5 hm1 HR1 HX5 _;clear hm1)
                  | (at_builtin;refine Z2t rfl (.tmp 94) (.tmp 96) w3 w3.heap.size _ [] p w5 rfl rfl rfl rfl HR1.out (by simp) HX5.out.size HX5.out (Nat.le_refl _) ?_;intro g2 c2 w6 HR2 HX6 _)
                  | (at_builtin;refine Z22 rfl (.tmp 98) (.tmp 101) w3 w3.heap.size _ (.slice none 0 0) [p] [] w6 rfl rfl rfl rfl (Row.nil w3.heap.size w6).rd (Row.nil w3.heap.size w6).nz HR2.out (by simp) HX6.out.size HX6.out (Nat.le_refl _) ?_;intro a3 m3 c3 w7 hm3 HR3 HX7 _;clear hm3))
                go_roundw
                case rel=>
                  first
                    | exact⟨j+1,_,rfl,HJ.out,by go_num,Q0 (by rw[HSO.out];exact Row.down (by simpa using HR3.out) HXW3.out.size),Q0 (HXW3.out.then HX7.out)⟩
                    | (repeat apply Exists.intro
                       refine⟨?_,rfl⟩;exact⟨j+1,_,rfl,HJ.out,by go_num,Q0 (by rw[HSO.out];exact Row.down (by simpa using HR3.out) HXW3.out.size),Q0 (HXW3.out.then HX7.out)⟩)
                case measure=>have:=HJ.out;simp[intOf];omega
            · have HRD:=Q0 HROW3.out.rd
              obtain⟨_,_,hv,hcap,hm,hc⟩:=HROW3.out.rd;cases hv;have hcapz:(ls.length:Int)≤(cap:Int):=by omega
              have HNZ:Hid (Row w3.heap.size w3 (.slice none 0 0) []):=Q0 (Row.nil _ _);have HC:Hid (∀(i:Nat) x,ls[i]?=some x→w3.cell? ⟨g,i,none⟩=some (S x)):=Q0 (fun i x hx=>by
                obtain⟨b,off,e,h⟩:=hc (by intro e;rw[e]at hx;simp at hx)
                cases e;simpa using h i x hx)
              clear hm hc;go_upto_block 2 with fail;go_cut [10] (fun v wx=>wx=w3∧∃k:Nat,k≤ls.length∧v=.int .i64 k∧Hid (Z0m (ls++[p])=ls.take k++[p]++ls.drop k))
              case first=>
                go_wp2_with fail;go_loopw [10] (fun i wx=>wx=w3∧∃k:Nat,k≤ls.length∧i=.int .i64 k∧Hid (∀(j:Nat) x,k≤j→ls[j]?=some x→p<x)) (fun i _=>(intOf i).toNat)
                case atStart=>exact⟨rfl,ls.length,Nat.le_refl _,rfl,Q0 (fun j x h hx=>by have:=(Q2 hx).1;omega)⟩
                case round=>
                  obtain⟨rfl,k,hk,rfl,HG⟩:=hrel;have hk0:(0:Int)≤(k:Int):=by omega
                  by_cases hk1:k=0
                  · subst hk1
                    have HSO:=Q0 (Z2p HPW.out hk HG.out (fun j x h=>by omega))
                    go_wp2_with fail;go_meet
                    exact⟨rfl,0,hk,rfl,HSO⟩
                  · obtain⟨k',hkk⟩:∃k',k=k'+1:=⟨k-1,by omega⟩
                    obtain⟨x,hx⟩:∃x,ls[k']?=some x:=⟨_,Q1 (by omega)⟩
                    have d0:=HC.out k' x hx;have hwk:IntKind.i64.wrap ((k:Int)-1)=(k':Int):=by rw[show (k:Int)-1=(k':Int) by omega];exact IntWalk.i64_in _ (by have:=HSL.out;omega)
                    have hp:(0:Int)<(k:Int):=by omega
                    have hk2:(k':Int)<(ls.length:Int):=by omega
                    have hk3:(0:Int)≤(k':Int):=by omega
                    by_cases hlt:p<x
                    · have hbl:=bytesLess_eq x p
                      rw[decide_eq_false (List.lt_asymm hlt)]at hbl;have hbl2:=bytesLess_eq p x;rw[decide_eq_true hlt]at hbl2;have hne:(x==p)=false:=Q3 fun e=>Z42 _ (e ▸ hlt)
                      have HX9:=Q0 hx;have HLT:=Q0 hlt;have HM:=Q0 hkk;clear hx hlt hkk;clear hk1;go_wp2_with fail;go_roundw
                      case rel=>
                        have HNX:Hid (∀(j:Nat) y,k'≤j→ls[j]?=some y→p<y):=Q0 (fun j y hj hy=>by
                          rcases Nat.eq_or_lt_of_le hj with e|e
                          · subst e;rw[HX9.out]at hy;cases hy;exact HLT.out
                          · exact HG.out j y (by have:=HM.out;omega) hy)
                        first
                          | exact⟨trivial,k',by omega,rfl,HNX⟩
                          | exact⟨rfl,k',by omega,rfl,HNX⟩
                          | (repeat apply Exists.intro
                             refine⟨?_,rfl⟩;exact⟨rfl,k',by omega,rfl,HNX⟩)
                      case measure=>have:=HM.out;simp[intOf];omega
                    · have HSO:=Q0 (Z2p HPW.out hk HG.out (fun j y e hy=>by
                        obtain rfl:j=k':=by omega
                        rw[hx]at hy;cases hy;exact hlt))
                      have hor:(!Op.bytesLess x p&&!(x==p))=false:=by
                        rw[bytesLess_eq];by_cases e:x=p
                        · simp[e]
                        · have:x<p:=Classical.byContradiction fun h=>e (Zb7 h hlt)
                          simp[this]
                      clear hx hlt hk1 hkk;go_wp2_with fail
                      all_goals
                        go_meet
                        exact⟨rfl,k,hk,rfl,HSO⟩
              case rest=>
                obtain⟨rfl,k,hk,rfl,HSO⟩:=hcut;have hkl:(ls.take k).length=k:=by rw[List.length_take];omega
                have HHT:Hid (Rd S wc (.slice (some ⟨g,0,none⟩) k cap) (ls.take k)):=Q0 (Rd.takeS HRD.out k hk);have hk0:(0:Int)≤(k:Int):=by omega
                have hkz:(k:Int)≤(ls.length:Int):=by omega
                have hkc:(k:Int)≤(cap:Int):=by omega
                have hld:(ls.drop k).length=ls.length-k:=List.length_drop ..
                have HHL:Hid ((ls.take k).length+1+(ls.drop k).length≤1000000):=Q0 (by rw[hkl,hld];have:=HSL.out;omega)
                have HLD:=Q0 hld;have HKL:=Q0 hkl;clear hld hkl;go_wp2_with (first
                  | (at_builtin;refine Z22 rfl (.tmp 89) (.tmp 92) wc wc.heap.size _ (.slice (some ⟨g,0,none⟩) k cap) [] (ls.take k) wc rfl rfl rfl rfl HHT.out (by intro h;cases h) HNZ.out (by have:=HHL.out;simp only[List.length_nil];omega) (Nat.le_refl _) (Only.refl _ _) (Nat.le_refl _) ?_;intro a1 m1 c1 w5 hm1 HR1 HX5 _;clear hm1)
                  | (at_builtin;refine Z2t rfl (.tmp 94) (.tmp 96) wc wc.heap.size _ ([]++ls.take k) p w5 rfl rfl rfl rfl HR1.out (by have:=HHL.out;rw[List.nil_append];omega) HX5.out.size HX5.out (Nat.le_refl _) ?_;intro g2 c2 w6 HR0 HX6 _;have HR2:Hid (Row wc.heap.size w6 (.slice (some ⟨g2,0,none⟩) (k+1) c2) (ls.take k++[p])):=Q0 (by have:=HR0.out;rw[List.nil_append,HKL.out]at this;exact this))
                  | (at_builtin;generalize hAO:(if cap=k then some (⟨g,0,none⟩:Addr)else some ⟨g,k,none⟩)=ao;have hdr:=Rd.dropT (ao:=ao) HRD.out hk (by rw[Nat.zero_add];exact hAO);refine Z22 rfl (.tmp 98) (.tmp 101) wc wc.heap.size _ (.slice ao (ls.length-k) (cap-k)) (ls.take k++[p]) (ls.drop k) w6 rfl rfl rfl rfl (Rd.ext (HLD.out ▸ hdr.1) HX6.out) (fun h=>(Z9w h hdr.2).elim) HR2.out (by have:=HHL.out;rw[List.length_append,List.length_singleton];exact this) HX6.out.size HX6.out (Nat.le_refl _) ?_;intro a3 m3 c3 w7 hm3 HR3 HX7 _;clear hm3 hdr hAO))
                go_roundw
                case rel=>
                  have HEND:Hid (Row w.heap.size w7 (.slice a3 m3 c3) (Z0m ((os.take (j+1)).filter (Z16 l T O)))):=Q0 (by rw[HTK2.out,HSO.out];exact Row.down HR3.out HXW3.out.size)
                  first
                    | exact⟨j+1,_,rfl,HJ.out,by go_num,HEND,Q0 (HXW3.out.then HX7.out)⟩
                    | (repeat apply Exists.intro
                       refine⟨?_,rfl⟩;exact⟨j+1,_,rfl,HJ.out,by go_num,HEND,Q0 (HXW3.out.then HX7.out)⟩)
                case measure=>have:=HJ.out;simp[intOf];omega
end
theorem Zix(w:World)(v:Value)(l:List B)(hv:Rd S w v l)(hn:l.length≤1000)(hb:Z0h l+l.length≤900000) :
  Calls Tryz.prog 146 #[v] w (RetE (S (Lib.join l [32])) w):=by
 obtain⟨a,cap,rfl,_,_,hc⟩:=hv;have HC:=Q0 hc;have hlz:(l.length:Int)≤1000:=by omega
 have HLE:Hid (∀j,(Lib.join (l.take j) [32]).length≤900000):=Q0 (fun j=>by
  have h1:=Z9m l [32] j;have h2:l.length*([32]:B).length=l.length:=by simp
  omega)
 obtain⟨R,hR⟩:∃R,R=Lib.join l [32]:=⟨_,rfl⟩;rw[←hR];have HR:=Q0 hR;clear hc hR hb;go_enter Tryz.func146,Tryz.ntmps146;go_wp2_with fail;go_loopw [3,4] (fun q i wr=>∃(j:Nat)(x:B),q=S x∧j≤l.length∧i=.int .i64 j∧wr=w∧Hid (x=Lib.join (l.take j) [32])) (fun _ i _=>l.length-(intOf i).toNat)
 case atStart=>exact⟨0,[],rfl,Nat.zero_le _,rfl,rfl,Q0 (by rw[List.take_zero];rfl)⟩
 case round=>
  obtain⟨j,x,rfl,hj,rfl,rfl,HX⟩:=hrel;by_cases hlt:j<l.length
  ·have hltz:(j:Int)<(l.length:Int):=by omega
   have hj0:(0:Int)≤(j:Int):=by omega
   obtain⟨b,off,rfl,hcell⟩:=HC.out (by intro h;rw[h]at hlt;simp at hlt)
   obtain⟨y,hy⟩:∃y,l[j]?=some y:=⟨_,Q1 hlt⟩;have d0:=hcell j y hy;have HJ:=Q0 hlt;have hle:=HLE.out (j+1);by_cases hz:j=0
   ·have hnz:¬(0:Int)<(j:Int):=by omega
    have hx0:x=[]:=by rw[HX.out,hz,List.take_zero];rfl
    subst hx0;have hst:Lib.join (l.take (j+1)) [32]=y:=by
     subst hz;cases l with
     | nil=>simp at hlt
     | cons q r=>simp at hy;subst hy;exact Zcz _ _ _
    have HST:=Q0 hst;rw[hst]at hle;have hlen:(y.length:Int)≤900000:=by omega
    have hba:((⟨#[]⟩:ByteArray)++⟨y.toArray⟩)=⟨y.toArray⟩:=Z1e [] y
    clear hcell hy hlt hst hj hle hz;go_wp2_with fail;go_roundw
    case rel=>exact⟨j+1,y,by first|rfl|rw[hba]|simp[hba],HJ.out,by go_num,by first|trivial|rfl,Q0 HST.out.symm⟩
    case measure=>have:=HJ.out;simp[intOf];omega
   ·have hjp:(0:Int)<(j:Int):=by omega
    have hst:=Zgn (l:=l) (j:=j) [32] (by omega) hy
    rw[←HX.out]at hst;have HST:=Q0 hst;rw[hst]at hle;simp only[List.length_append,List.length_cons,List.length_nil]at hle;have hba:((⟨x.toArray⟩:ByteArray)++⟨#[32]⟩++⟨y.toArray⟩)=⟨(x++[32]++y).toArray⟩:=by rw[show (⟨#[32]⟩:ByteArray)=⟨([32]:B).toArray⟩ from rfl,Z1e,Z1e]
    obtain⟨Z,hZ⟩:∃Z,Z=x++[32]++y:=⟨_,rfl⟩;rw[←hZ]at hba HST;clear hcell hy hlt hst hj hz hZ;go_wp2_with fail;go_roundw
    case rel=>exact⟨j+1,Z,by first|rfl|rw[hba]|simp[hba],HJ.out,by go_num,by first|trivial|rfl,Q0 HST.out.symm⟩
    case measure=>have:=HJ.out;simp[intOf];omega
  ·have hltz:¬(j:Int)<(l.length:Int):=by omega
   have hxe:x=R:=by rw[HX.out,HR.out,List.take_of_length_le (by omega)]
   have HXE:=Q0 hxe;clear hxe hlt;go_wp2_with fail;go_ret;exact⟨by first|rfl|rw[HXE.out];rfl|rw[HXE.out],Only.refl _ _⟩
theorem sumM_any{w0 w:World}{D:Nat→Prop}{n:Nat}{tv ov lv cv:Value}{many:Nat}{T O L:FL}{l:List Rule}(h:Z09 w0 w D n tv ov lv cv many T O L l)(hof:(Z0i l).1=0)(hT:Z2l T)(hO:Z2l O)(h1:∀q∈O,q.1.length≤1000)(h2:∀q∈O,q.2.length≤2000)(hn:O.length≤60)
  (hb:Z0h (Z0m (Z26 l T O))+(Z0m (Z26 l T O)).length≤900000) (hs:(Z0m (Z26 l T O)).length≤1000) (ht:(Z48 O).length≤900000) (hj:(Lib.join (Z0m (Z26 l T O)) [32]).length≤900000) :
  Calls Tryz.prog 82 #[PTR (n+3)] w (RetE (S (Z48 O++[10]++Lib.join (Z0m (Z26 l T O)) [32])) w):=by
 have HTX:=Q0 (Zfe w n (n+1) ov O h.out h1 h2 hn);have HST:=Q0 (fun wq (hq:Ext w wq)=>Zlc (h.grow hq) hof hT hO)
 have k1:=(h.cell 1).trans (rfl:_=some (PTR (n+1)));generalize Z0m (Z26 l T O)=st at HST hb hs hj ⊢;have HJN:=Q0 (fun wq v (hv:Rd S wq v st)=>Zix wq v st hv hs hb)
 generalize Lib.join st [32]=jn at HJN hj ⊢;generalize Z48 O=tx at HTX ht ⊢;have hba:((⟨tx.toArray⟩:ByteArray)++⟨#[10]⟩++⟨jn.toArray⟩)=⟨(tx++[10]++jn).toArray⟩:=by rw[show (⟨#[10]⟩:ByteArray)=⟨([10]:B).toArray⟩ from rfl,Z1e,Z1e]
 have HBA:=Q0 (congrArg Value.string hba);clear h hof hT hO h1 h2 hn hb hs hba;go_enter Tryz.func82,Tryz.ntmps82;go_wp2_with fail;refine HTX.out.mono ?_;rintro e w1 ⟨rfl,ho1⟩;have HX1:=Q0 ho1;clear ho1;go_wp2_with fail;refine(HST.out _ HX1.out).mono ?_;rintro e w2 ⟨v,rfl,ho2,hr2⟩;have HX2:=Q0 (HX1.out.then ho2);have HR2:=Q0 hr2.rd;clear ho2 hr2;go_wp2_with fail;refine(HJN.out _ _ HR2.out).mono ?_;rintro e w3 ⟨rfl,ho3⟩;have HX3:=Q0 (HX2.out.then ho3);clear ho3;go_wp2_with fail;go_ret;exact⟨congrArg Ending.returned HBA.out,HX3.out⟩
end Go.Proofs.YtnmhaipjfpongacGreatDoor
