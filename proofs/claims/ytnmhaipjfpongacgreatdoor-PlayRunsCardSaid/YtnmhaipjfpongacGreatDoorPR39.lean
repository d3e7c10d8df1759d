/- A part of this claim's proof;each theorem bears its own conditions. -/
import Derived.Test.YtnmhaipjfpongacGreatDoorPR37
import Derived.Test.YtnmhaipjfpongacGreatDoorPR38
set_option maxRecDepth 100000
set_option maxHeartbeats 8000000
namespace Go.Proofs.YtnmhaipjfpongacGreatDoor
open Go.ChangeShapes Go.WideShapes Go.ChangeAt Go.RowKit
section
variable {σ:Type}{E:BE}{bs:σ→BS}{step:σ→Nat→σ}
end
theorem Znv(E:BE)(s:BS)(i:Nat):(runP E none s i).2.2=none:=by
 unfold runP;split
 ·rfl
 ·split
  ·rfl
  ·split
   ·rfl
   ·split <;> rfl
theorem Zak(n:Nat)(hn:n≤1000000)(w:World):(Instr.makeSlice 53 (.int .i64 (n:Int)) (.int .i64 (n:Int))).run Tryz.prog w =
  .ok (.slice (some ⟨w.heap.size,0,none⟩) n n) (w.alloc (.cells (Array.replicate n (S [])) 9 (0,0))):=by
 obtain⟨i0,hi,hz0,hz1,hz2⟩:=info_parts Ze9;have h:=run_make w 53 9 i0 (S []) Tryz.underlying53 hi hz0 .i64 .i64 (n:Int) (n:Int) (by omega) (Int.le_refl _) (by rw[hz2];omega) (by omega)
 rw[h,hz1];rw[Int.toNat_natCast,Nat.mul_one];congr 2;congr 1;apply Array.ext
 ·simp[madeCells]
 ·intro i h1 h2
  simp[madeCells,Value.cells,Nat.mod_one]
theorem Zlh(n:Nat)(hn:n≤1000000)(w:World):(Instr.makeSlice 46 (.int .i64 (n:Int)) (.int .i64 (n:Int))).run Tryz.prog w =
  .ok (.slice (some ⟨w.heap.size,0,none⟩) n n) (w.alloc (.cells (Array.replicate n (.int .i64 0)) 3 (0,0))):=by
 obtain⟨i0,hi,hz0,hz1,hz2⟩:=info_parts Z8z;have h:=run_make w 46 3 i0 (.int .i64 0) Tryz.underlying46 hi hz0 .i64 .i64 (n:Int) (n:Int) (by omega) (Int.le_refl _) (by rw[hz2];omega) (by omega)
 rw[h,hz1];rw[Int.toNat_natCast,Nat.mul_one];congr 2;congr 1;apply Array.ext
 ·simp[madeCells]
 ·intro i h1 h2
  simp[madeCells,Value.cells,Nat.mod_one]
theorem Z6n{w:World}{ob:Obj}{n:Nat}:∀b,Value.ownBlock (.slice (some ⟨w.heap.size,0,none⟩) n n)=some b→w.heap.size≤b∧b<(w.alloc ob).heap.size:=fun b h=>by
 cases h;simp
def Zhl(w:World)(n:Nat)(T:FL)(i:Nat)(v:Value)(w':World):Prop:=
 (i=1∧∃t tv,v=PTR t∧w.heap.size≤t∧Z20 w' w.heap.size t tv T)∨
 ((i=4∨i=6)∧∃b,v=TabS b n∧w.heap.size≤b∧Z0s w' b 9 n (fun _=>S []))∨
 (i=8∧∃b,v=TabS b n∧w.heap.size≤b∧Z0s w' b 4 n (fun _=>.bool false))∨
 (i=10∧∃b,v=TabS b n∧w.heap.size≤b∧Z0s w' b 3 n (fun _=>.int .i64 0))
theorem Zhl.ext{w:World}{n:Nat}{T:FL}(i:Nat)(v:Value)(a b:World)(h:Zhl w n T i v a)(ho:Ext a b):Zhl w n T i v b:=by
 rcases h with⟨h1,t,tv,h2,h3,h4⟩|⟨h1,t,h2,h3,h4⟩|⟨h1,t,h2,h3,h4⟩|⟨h1,t,h2,h3,h4⟩
 ·exact .inl ⟨h1,t,tv,h2,h3,h4.ext ho⟩
 ·exact .inr (.inl ⟨h1,t,h2,h3,h4.ext ho⟩)
 ·exact .inr (.inr (.inl ⟨h1,t,h2,h3,h4.ext ho⟩))
 ·exact .inr (.inr (.inr ⟨h1,t,h2,h3,h4.ext ho⟩))
theorem Z20.low{w:World}{b b' m:Nat}{slv:Value}{L:FL}(h:Z20 w b' m slv L)(hb:b≤b'):Z20 w b m slv L:=
 ⟨h.cells,h.row.1,h.row.2.imp id fun⟨g,cap,cur,e,hg,r⟩=>⟨g,cap,cur,e,Nat.le_trans hb hg,r⟩⟩
noncomputable def gNew(l:List Rule)(outs:List B)(j i:Nat):Nat:=if decide (i<j)&&Z51 l outs i then 1 else 0
theorem gNew_end(l:List Rule)(outs:List B)(T:FL)(i:Nat)(hi:i<l.length):gNew l outs l.length i=mst (newE l outs T) .new i:=by
 unfold gNew mst;rw[decide_eq_true hi,Bool.true_and];by_cases h:Z51 l outs i=true
 ·rw[if_pos h,if_pos (show i∈Z2f l outs from List.mem_filter.2 ⟨List.mem_range.2 hi,h⟩)];rfl
 ·rw[if_neg h,if_neg (show ¬i∈Z2f l outs from fun hm=>h (List.mem_filter.1 hm).2)]
theorem Z8x(l:List Rule)(outs:List B)(T:FL)(i:Nat):mst (newE l outs T) .new i≠2∧mst (newE l outs T) .new i≠3:=by
 unfold mst;split
 ·exact⟨(by decide:(1:Nat)≠2),(by decide:(1:Nat)≠3)⟩
 ·exact⟨by decide,by decide⟩
def Zqh(w:World)(l:List Rule)(outs:List B)(T:FL)(cp lv:Value)(e:Ending)(w':World):Prop:=
 ∃K:MK,e=.returned (PTR K.b)∧K.cp=cp∧(K.q=fun _=>False)∧lv=.slice K.la l.length K.lc∧Z2x w w' (newE l outs T) K .new∧∀i,InMA K i→w.heap.size≤i
theorem Zg7(w:World)(base m:Nat)(slv lv vo:Value)(ca:Option Addr)(l:List Rule)(outs:List B)(T:FL)(hm:Z20 w base m slv T)(hT:T.length≤1000000)(hv:RdR w lv l)(hvo:Rd S w vo outs)(hr:Z34 l)(hb:Z57 l outs=none) :
    Calls Tryz.prog 55 #[PTR m,lv,vo,.pointer ca] w (Zqh w l outs T (.pointer ca) lv):=by
  have HM:=Q0 hm;have HT:=Q0 hT;have HV:=Q0 hv;have HVO:=Q0 hvo;have HR:=Q0 hr;have HBD:=Q0 hb;have hl40:l.length≤40:=hr.1;have hlz:(l.length:Int)≤40:=by omega
  obtain⟨a0,c0,rfl,_,_,_⟩:=hv;obtain⟨ao,co,rfl,_,_,_⟩:=hvo;clear hm hT hr hb;go_enter Tryz.func55,Tryz.ntmps55;go_upto_region 2 with fail;go_cut [10] (fun p wx=>∃(K:MK),p=PTR K.b∧Hid (K.cp=.pointer ca∧K.la=a0∧K.lc=c0∧K.q=fun _=>False)∧Hid (MAt w wx (newE l outs T) K (gNew l outs 0) (fun _=>[]) (fun _=>false) (fun _=>0))∧Hid (∀i,InMA K i→w.heap.size≤i))
  case first=>
    refine wp_region_held_drew (S:=fun w'=>Hid (Ext w w')) (by kernel_rfl) (Q0 (Only.drew _ _)) (fun hHeld=>?_)
    refine wpAnyH_take (i:=0) (oi:={ dst:=some 16,op:=Op.move (Operand.tmp 0),type:=28,pos:= "build.go:110",after:=#[],guard:=none }) (v:=?_) rfl (by kernel_rfl) (by kernel_rfl) (by kernel_rfl) (fun _ _ _ h=>h) (Or.inl ⟨by rfl,?_⟩) (by assumption) ?_
    rotate_left
    · (intro w hSw;(try dsimp only at hSw);go_simp;try with_reducible rfl)
    try simp only[Act.put,List.setIfInBounds_toArray,List.set_cons_zero,List.set_cons_succ]
    refine wpAnyH_take (i:=2) (oi:={ dst:=some 18,op:=Op.move (Operand.tmp 1),type:=23,pos:= "build.go:110",after:=#[],guard:=none }) (v:=?_) rfl (by kernel_rfl) (by kernel_rfl) (by kernel_rfl) (fun _ _ _ h=>h) (Or.inl ⟨by rfl,?_⟩) (by assumption) ?_
    rotate_left
    · (intro w hSw;(try dsimp only at hSw);go_simp;try with_reducible rfl)
    try simp only[Act.put,List.setIfInBounds_toArray,List.set_cons_zero,List.set_cons_succ]
    refine wpAnyH_take (i:=3) (oi:={ dst:=some 19,op:=Op.move (Operand.tmp 9),type:=3,pos:= "build.go:110",after:=#[],guard:=none }) (v:=?_) rfl (by kernel_rfl) (by kernel_rfl) (by kernel_rfl) (fun _ _ _ h=>h) (Or.inl ⟨by rfl,?_⟩) (by assumption) ?_
    rotate_left
    · (intro w hSw;(try dsimp only at hSw);go_simp;try with_reducible rfl)
    try simp only[Act.put,List.setIfInBounds_toArray,List.set_cons_zero,List.set_cons_succ]
    refine wpAnyH_take (i:=5) (oi:={ dst:=some 21,op:=Op.move (Operand.tmp 9),type:=3,pos:= "build.go:110",after:=#[],guard:=none }) (v:=?_) rfl (by kernel_rfl) (by kernel_rfl) (by kernel_rfl) (fun _ _ _ h=>h) (Or.inl ⟨by rfl,?_⟩) (by assumption) ?_
    rotate_left
    · (intro w hSw;(try dsimp only at hSw);go_simp;try with_reducible rfl)
    try simp only[Act.put,List.setIfInBounds_toArray,List.set_cons_zero,List.set_cons_succ]
    refine wpAnyH_take (i:=7) (oi:={ dst:=some 23,op:=Op.move (Operand.tmp 9),type:=3,pos:= "build.go:110",after:=#[],guard:=none }) (v:=?_) rfl (by kernel_rfl) (by kernel_rfl) (by kernel_rfl) (fun _ _ _ h=>h) (Or.inl ⟨by rfl,?_⟩) (by assumption) ?_
    rotate_left
    · (intro w hSw;(try dsimp only at hSw);go_simp;try with_reducible rfl)
    try simp only[Act.put,List.setIfInBounds_toArray,List.set_cons_zero,List.set_cons_succ]
    refine wpAnyH_take (i:=9) (oi:={ dst:=some 25,op:=Op.move (Operand.tmp 9),type:=3,pos:= "build.go:110",after:=#[],guard:=none }) (v:=?_) rfl (by kernel_rfl) (by kernel_rfl) (by kernel_rfl) (fun _ _ _ h=>h) (Or.inl ⟨by rfl,?_⟩) (by assumption) ?_
    rotate_left
    · (intro w hSw;(try dsimp only at hSw);go_simp;try with_reducible rfl)
    try simp only[Act.put,List.setIfInBounds_toArray,List.set_cons_zero,List.set_cons_succ]
    refine wpAnyH_take (i:=11) (oi:={ dst:=some 27,op:=Op.move (Operand.tmp 3),type:=90,pos:= "build.go:110",after:=#[],guard:=none }) (v:=?_) rfl (by kernel_rfl) (by kernel_rfl) (by kernel_rfl) (fun _ _ _ h=>h) (Or.inl ⟨by rfl,?_⟩) (by assumption) ?_
    rotate_left
    · (intro w hSw;(try dsimp only at hSw);go_simp;try with_reducible rfl)
    try simp only[Act.put,List.setIfInBounds_toArray,List.set_cons_zero,List.set_cons_succ]
    refine Zmb [1,4,6,8,10] (Zhl w l.length T) _ _ _ 3 (by decide) (by kernel_rfl) (Zhl.ext) (fun wx hx=>Q0 ((Only.drew _ _).then hx)) ?hop ?hend
    case hop=>
      intro i hi s hs wx hx K hK
      have sz:w.heap.size≤wx.heap.size:=((Only.drew (fun _=>False) w).then hx).size
      simp only[List.mem_cons,List.not_mem_nil,or_false]at hi;rcases hi with rfl|rfl|rfl|rfl|rfl
      · refine Zl6 (t:=16) (v:=PTR m) rfl rfl rfl ((Z44 s _ (Zbj hs (by kernel_rfl))).trans rfl) (fun w=>by kernel_rfl) (Zh9 wx base m slv T (HM.out.ext ((Only.drew _ _).then hx)) HT.out) (fun e w' h=>?_)
        obtain⟨slv',rfl,h1,h2⟩:=h;exact⟨_,rfl,hK _ _ h2 (.inl ⟨rfl,_,slv',rfl,sz,h1.low sz⟩) (fun b hb=>by cases hb)⟩
      · exact Z6g (t:=19) rfl rfl rfl ((Z44 s _ (Zbj hs (by kernel_rfl))).trans rfl) (Zak l.length (by omega) wx) (hK _ _ (Only.alloc _ _ _) (.inr (.inl ⟨.inl rfl,_,rfl,sz,Z0s.made wx _ l.length _⟩)) Z6n)
      · exact Z6g (t:=21) rfl rfl rfl ((Z44 s _ (Zbj hs (by kernel_rfl))).trans rfl) (Zak l.length (by omega) wx) (hK _ _ (Only.alloc _ _ _) (.inr (.inl ⟨.inr rfl,_,rfl,sz,Z0s.made wx _ l.length _⟩)) Z6n)
      · exact Z6g (t:=23) rfl rfl rfl ((Z44 s _ (Zbj hs (by kernel_rfl))).trans rfl) (Z50 l.length (by omega) wx) (hK _ _ (Only.alloc _ _ _) (.inr (.inr (.inl ⟨rfl,_,rfl,sz,Z0s.made wx _ l.length _⟩))) Z6n)
      · exact Z6g (t:=25) rfl rfl rfl ((Z44 s _ (Zbj hs (by kernel_rfl))).trans rfl) (Zlh l.length (by omega) wx) (hK _ _ (Only.alloc _ _ _) (.inr (.inr (.inr ⟨rfl,_,rfl,sz,Z0s.made wx _ l.length _⟩))) Z6n)
    case hend=>
      intro s hp wx hx hf hap
      have hHeld:Hid (Ext w wx):=Q0 ((Only.drew _ _).then hx);obtain⟨f,hperm⟩:=vals_of hp (by decide)
      rw[Zlo hperm _ ?nd]
      case nd=>exact(hperm.map _).nodup_iff.2 (show ([some 17,some 20,some 22,some 24,some 26]:List (Option Tmp)).Nodup from by decide)
      have hm:∀i,i∈[1,4,6,8,10]→(i,f i)∈s:=fun i hi=>hperm.mem_iff.2 (List.mem_map.2 ⟨i,hi,rfl⟩)
      obtain⟨t,tv,e1,l1,h1⟩:∃t tv,f 1=PTR t∧w.heap.size≤t∧Z20 wx w.heap.size t tv T:=by
        rcases hf _ (hm 1 (by decide))with⟨_,h⟩|⟨h,_⟩|⟨h,_⟩|⟨h,_⟩
        · exact h
        · simp at h
        · simp at h
        · simp at h
      obtain⟨b4,e4,l4,h4⟩:∃b,f 4=TabS b l.length∧w.heap.size≤b∧Z0s wx b 9 l.length (fun _=>S []):=by
        rcases hf _ (hm 4 (by decide))with⟨h,_⟩|⟨_,h⟩|⟨h,_⟩|⟨h,_⟩
        · simp at h
        · exact h
        · simp at h
        · simp at h
      obtain⟨b6,e6,l6,h6⟩:∃b,f 6=TabS b l.length∧w.heap.size≤b∧Z0s wx b 9 l.length (fun _=>S []):=by
        rcases hf _ (hm 6 (by decide))with⟨h,_⟩|⟨_,h⟩|⟨h,_⟩|⟨h,_⟩
        · simp at h
        · exact h
        · simp at h
        · simp at h
      obtain⟨b8,e8,l8,h8⟩:∃b,f 8=TabS b l.length∧w.heap.size≤b∧Z0s wx b 4 l.length (fun _=>.bool false):=by
        rcases hf _ (hm 8 (by decide))with⟨h,_⟩|⟨h,_⟩|⟨_,h⟩|⟨h,_⟩
        · simp at h
        · simp at h
        · exact h
        · simp at h
      obtain⟨b10,e10,l10,h10⟩:∃b,f 10=TabS b l.length∧w.heap.size≤b∧Z0s wx b 3 l.length (fun _=>.int .i64 0):=by
        rcases hf _ (hm 10 (by decide))with⟨h,_⟩|⟨h,_⟩|⟨h,_⟩|⟨_,h⟩
        · simp at h
        · simp at h
        · simp at h
        · exact h
      have hne:b4≠b6:=fun e=>hap _ (hm 4 (by decide)) _ (hm 6 (by decide)) (show (4:Nat)≠6 from by decide) b4 (by rw[e4];rfl) (by rw[e6,e];rfl)
      have HMT:Hid (MAt w (wx.alloc (.cells (Zge (newE l outs T) ⟨wx.heap.size,t,tv,a0,c0,b4,b6,b8,b10,.pointer ca,fun _=>False⟩) 113 (0,0))) (newE l outs T) ⟨wx.heap.size,t,tv,a0,c0,b4,b6,b8,b10,.pointer ca,fun _=>False⟩ (gNew l outs 0) (fun _=>[]) (fun _=>false) (fun _=>0)):=Q0
        ⟨hHeld.out.thenAlloc _,(fun _ h=>h.elim),(MapKept.heap_alloc wx _).1,h1.ext (Only.alloc _ _ _),HV.out,
         ⟨(h4.ext (Only.alloc _ _ _)).congr (fun i _=>by unfold gNew;simp;rfl),h6.ext (Only.alloc _ _ _),h8.ext (Only.alloc _ _ _),h10.ext (Only.alloc _ _ _)⟩,hne,⟨hHeld.out.size,l1,l4,l6,l8,l10⟩⟩
      have HGG:Hid (∀i,InMA ⟨wx.heap.size,t,tv,a0,c0,b4,b6,b8,b10,.pointer ca,fun _=>False⟩ i→w.heap.size≤i):=Q0 (HMT.out.ge)
      change wpAnyH _ _ _ _ _ _ _ (((((Act.put _ (some 17) (f 1)).put (some 20) (f 4)).put (some 22) (f 6)).put (some 24) (f 8)).put (some 26) (f 10)) _
      rw[e1,e4,e6,e8,e10];clear hx hf hap hperm hp hm e1 e4 e6 e8 e10 h1 h4 h6 h8 h10 l1 l4 l6 l8 l10 hne;try simp only[Act.put,List.setIfInBounds_toArray,List.set_cons_zero,List.set_cons_succ]
      refine wpAnyH_take (i:=12) (oi:={ dst:=some 28,op:=Op.build 113 #[(0,Operand.tmp 17),(1,Operand.tmp 18),(2,Operand.tmp 20),(3,Operand.tmp 22),(4,Operand.tmp 24),(5,Operand.tmp 26),(6,Operand.tmp 27)],type:=113,pos:= "build.go:110",after:=#[{ on:=1,ground:=Ground.data },{ on:=2,ground:=Ground.data },{ on:=4,ground:=Ground.data },{ on:=6,ground:=Ground.data },{ on:=8,ground:=Ground.data },{ on:=10,ground:=Ground.data },{ on:=11,ground:=Ground.data }],guard:=none }) (v:=?_) rfl (by kernel_rfl) (by kernel_rfl) (by kernel_rfl) (fun _ _ _ h=>h) (Or.inl ⟨by rfl,?_⟩) (by assumption) ?_
      rotate_left
      · (intro w hSw;(try dsimp only at hSw);go_simp;try with_reducible rfl)
      try simp only[Act.put,List.setIfInBounds_toArray,List.set_cons_zero,List.set_cons_succ]
      refine wpAnyH_ready (rs:=[13]) (by kernel_rfl) (by simp) ?_
      refine AllReadyH.cons (o:={ dst:=some 29,op:=Op.box 113 (Operand.tmp 28),type:=96,pos:= "build.go:110",after:=#[{ on:=12,ground:=Ground.data }],guard:=none }) rfl (fun K' hK=>?_) AllReadyH.nil
      go_simp;refine hK.out _ _ (Q0 (hHeld.out.thenAlloc _)) (fun hHeld=>?_)
      clear hK K';try simp only[Act.put,List.setIfInBounds_toArray,List.set_cons_zero,List.set_cons_succ]
      refine wpAnyH_take (i:=14) (oi:={ dst:=some 10,op:=Op.assign (Operand.tmp 29),type:=96,pos:= "build.go:110",after:=#[{ on:=13,ground:=Ground.data },{ on:=1,ground:=Ground.chain },{ on:=0,ground:=Ground.phase },{ on:=1,ground:=Ground.phase },{ on:=2,ground:=Ground.phase },{ on:=3,ground:=Ground.phase },{ on:=4,ground:=Ground.phase },{ on:=5,ground:=Ground.phase },{ on:=6,ground:=Ground.phase },{ on:=7,ground:=Ground.phase },{ on:=8,ground:=Ground.phase },{ on:=9,ground:=Ground.phase },{ on:=10,ground:=Ground.phase },{ on:=11,ground:=Ground.phase },{ on:=12,ground:=Ground.phase },{ on:=13,ground:=Ground.phase }],guard:=none }) (v:=?_) rfl (by kernel_rfl) (by kernel_rfl) (by kernel_rfl) (fun _ _ _ h=>h) (Or.inl ⟨by rfl,?_⟩) (by assumption) ?_
      rotate_left
      · (intro w hSw;(try dsimp only at hSw);go_simp;try with_reducible rfl)
      try simp only[Act.put,List.setIfInBounds_toArray,List.set_cons_zero,List.set_cons_succ]
      refine wpAnyH_done (by kernel_rfl) ?_ _
      go_wp2_with fail;go_meet
      exact⟨_,rfl,Q0 ⟨rfl,rfl,rfl,rfl⟩,HMT,HGG⟩
  case rest=>
    obtain⟨K,rfl,HK,HA,HG⟩:=hcut;have HVC:=Q0 (HV.out.ext (HA.out.ext0 HK.out.2.2.2));have HVOC:=Q0 (HVO.out.ext (HA.out.ext0 HK.out.2.2.2));have HND:=Q0 (Z9i wc l outs _ _ HVC.out HVOC.out HR.out);go_wp2_with fail;refine HND.out.mono ?_;rintro e w3 ⟨ho3,hc3⟩;rcases hc3 with⟨i,hb3,_⟩|⟨_,tb,rfl,htb⟩
    · rw[HBD.out]at hb3;cases hb3
    have HA3:=Q0 (HA.out.grow ho3);have HTB:=Q0 htb;clear ho3 htb HND;go_wp2_with fail;go_loopw [13] (fun i wr=>∃t:Nat,t≤l.length∧i=.int .i64 t∧Hid (MAt w wr (newE l outs T) K (gNew l outs t) (fun _=>[]) (fun _=>false) (fun _=>0))∧Hid (Z0s wr tb 4 l.length (fun k=>.bool (Z51 l outs k)))) (fun i _=>l.length-(intOf i).toNat)
    case atStart=>exact⟨0,Nat.zero_le _,rfl,HA3,HTB⟩
    case round=>
      clear HA3 HTB;obtain⟨t,ht,rfl,HA,HTB⟩:=hrel;by_cases htl:t<l.length
      · have htz:(t:Int)<(l.length:Int):=by omega
        have ht0:(0:Int)≤(t:Int):=by omega
        have ht1:¬(t:Int)<0:=by omega
        have ht2:¬(l.length:Int)≤(t:Int):=by omega
        have b0:=HTB.out.cell htl;have HTL:=Q0 htl;cases hre:Z51 l outs t with
        | true=>
          simp only[hre]at b0;have m2:=(HA.out.cell 2).trans (rfl:_=some (TabS K.st l.length));have ts:=HA.out.tab.st.cell htl;have fs:=HA.out.tab.st.free t;obtain⟨h2,ho2⟩:=HA.out.setSt t 1 (g':=gNew l outs (t+1)) (fun i=>by
            unfold gNew;by_cases e:i=t
            · subst e;rw[if_pos rfl,decide_eq_true (Nat.lt_succ_self i),hre];rfl
            · rw[if_neg e,decide_eq_decide.2 (show i<t+1↔i<t by omega)])
          rw[show Z0d 1=[119,97,105,116,115] from rfl]at h2 ho2
          have HA2:=Q0 h2;have HTB2:Hid (Z0s _ tb 4 l.length (fun k=>.bool (Z51 l outs k))):=Q0 (HTB.out.later (Z0v (w:=wr) (b:=K.st) (k:=t) (v:=S [119,97,105,116,115])) (Ne.symm (HA.out.tab.st.ne HTB.out (by decide))).symm.symm)
          generalize Z0d (gNew l outs t t)=sx at ts;clear h2 ho2 hre htl ht;go_wp2_with fail;go_roundw
          case rel=>exact⟨t+1,HTL.out,by go_num,HA2,HTB2⟩
          case measure=>have:=HTL.out;simp[intOf];omega
        | false=>
          simp only[hre]at b0;have HA2:=Q0 (HA.out.congr (g':=gNew l outs (t+1)) (fun i _=>by
            unfold gNew;by_cases e:i=t
            · subst e;rw[hre,Bool.and_false,Bool.and_false]
            · rw[decide_eq_decide.2 (show i<t+1↔i<t by omega)]) (fun _ _=>rfl) (fun _ _=>rfl) (fun _ _=>rfl))
          clear hre htl ht;go_wp2_with fail;go_roundw
          case rel=>exact⟨t+1,HTL.out,by go_num,HA2,HTB⟩
          case measure=>have:=HTL.out;simp[intOf];omega
      · have htz:¬(t:Int)<(l.length:Int):=by omega
        have hte:t=l.length:=by omega
        rw[hte]at HA;clear htl ht hte;go_wp2_with fail;go_ret;refine⟨K,rfl,HK.out.1,HK.out.2.2.2,by rw[HK.out.2.1,HK.out.2.2.1],HA.out.congr (fun i hi=>gNew_end l outs T i hi) (fun i _=>?_) (fun i _=>?_) (fun i _=>?_),HG.out⟩
        · unfold outM;rw[if_neg (Z8x l outs T i).1]
        · unfold hitM;rw[show (mst (newE l outs T) .new i==2)=false from Q3 (Z8x l outs T i).1];rfl
        · unfold whyM;rw[if_neg (Z8x l outs T i).2]
noncomputable def Z80(l:List Rule)(outs:List B):Nat×Int:=if (Z0e l outs).1≠0 then Z0e l outs else Z1c l (Z2f l outs)
theorem Zgc{l:List Rule}{outs:List B}(h:(Z04 l).1≠0):Z80 l outs=Z04 l:=by
 have h1:Z0e l outs=Z04 l:=by unfold Z0e;rw[if_pos h]
 unfold Z80;rw[h1,if_pos h]
theorem Zm8{l:List Rule}{outs:List B}{i:Nat}(h:(Z04 l).1=0)(hb:Z57 l outs=some i):Z80 l outs=(6,(i:Int)):=by
 have h1:Z0e l outs=(6,(i:Int)):=by unfold Z0e;rw[if_neg (by rw[h];simp),hb]
 unfold Z80;rw[h1,if_pos (by simp)]
theorem Zim{l:List Rule}{outs:List B}(h:(Z04 l).1=0)(hb:Z57 l outs=none):Z80 l outs=Z1c l (Z2f l outs):=by
 have h1:Z0e l outs=(0,-1):=by unfold Z0e;rw[if_neg (by rw[h];simp),hb]
 unfold Z80;rw[h1,if_neg (by simp)]
theorem Zc8(w:World)(l:List Rule)(outs:List B)(v vo:Value)(hv:RdR w v l)(hvo:Rd S w vo outs)(hs:∀r∈l,Z3z 900000 r) :
  Calls Tryz.prog 54 #[v,vo] w (RetE (AggF (Z80 l outs)) w):=by
 have HRD:=Q0 hv;have HRO:=Q0 hvo;have HR0:Hid (Zjl w (w.alloc (.cells #[.int .i64 0,.int .i64 0] 37 (0,0)))):=Q0 ⟨Only.alloc _ _ _,(MapKept.heap_alloc w _).1⟩;have HSH:=Q0 (fun(wq:World) (hx:Ext w wq)=>Z9d wq l v (hv.ext hx) hs)
 obtain⟨R,hR⟩:∃R,R=Z80 l outs:=⟨_,rfl⟩;rw[←hR];have HR:=Q0 hR;obtain⟨F,hF⟩:∃F,F=Z04 l:=⟨_,rfl⟩;rw[←hF]at HSH;have HF:=Q0 hF;obtain⟨c,t⟩:=F;obtain⟨a,cap,rfl,_,_,_⟩:=hv;obtain⟨ao,co,rfl,_,_,_⟩:=hvo;clear hs hF hR;by_cases hc:c=0
 case neg=>
  have HR2:Hid (R=(c,t)):=Q0 (by rw[HR.out,Zgc (by rw[←HF.out];exact hc),HF.out])
  have hcz:(0:Int)<(c:Int):=by omega
  clear hc;go_enter Tryz.func54,Tryz.ntmps54;go_wp2_with fail;refine(HSH.out _ HR0.out.ext).mono ?_;rintro e w1 ⟨rfl,ho⟩;have hr1:=(HR0.out.grow ho).grow (Only.alloc _ w1 (.cells #[IN c,I t] 37 (0,0)));have HX1:=Q0 hr1.ext;have HRC:=Q0 hr1.cell;have f0:=Z02 hr1.cell 0;have f1:=Z02 hr1.cell 1;have r0:=(Z00 hr1.cell 0).trans (rfl:_=some (Value.int .i64 0));have r1:=(Z00 hr1.cell 1).trans (rfl:_=some (Value.int .i64 0));clear ho hr1 HR0;go_wp2_with fail;refine bodyPost_ret (v:=AggF R) ?_ rfl ⟨rfl,Z1d (Z1d HX1.out _ _ (Nat.le_refl _)) _ _ (Nat.le_refl _)⟩;have hres:Tryz.f54.results = #[.cell 4 37]:=by kernel_rfl
  have rc0:=fun u v=>(Z1y HRC.out u v).1
  have rc1:=fun u v=>(Z1y HRC.out u v).2
  rw[HR2.out];simp only[results,hres];go_simp
 case pos=>
  subst hc;have h00:(Z04 l).1=0:=by rw[←HF.out]
  have HZ:=Q0 h00;have HRT:=Q0 (Z2e.1 h00);obtain rfl:t=-1:=by
   have h1:=Z8r h00;rw[←HF.out]at h1;exact(Prod.mk.inj h1).2
  have h40:l.length≤1000:=by have:=HRT.out.1;omega
  clear h00;go_enter Tryz.func54,Tryz.ntmps54;go_wp2_with fail;refine(HSH.out _ HR0.out.ext).mono ?_;rintro e w1 ⟨rfl,ho⟩;have HR1:=Q0 ((HR0.out.grow ho).grow (Only.alloc _ w1 (.cells #[.int .i64 0,.int .i64 (-1)] 37 (0,0))));have HB5:Hid ((w1.alloc (.cells #[.int .i64 0,.int .i64 (-1)] 37 (0,0))).heap[w1.heap.size]?=some (.cells #[.int .i64 0,.int .i64 (-1)] 37 (0,0))):=Q0 (MapKept.heap_alloc w1 _).1;clear ho HR0 HSH;go_wp2_with fail;refine(Z9i _ l outs _ _ (HRD.out.ext HR1.out.ext) (HRO.out.ext HR1.out.ext) HRT.out).mono ?_;rintro e w3 ⟨ho,hcase⟩;have HR3:=Q0 (HR1.out.grow ho);have HB53:=Q0 (ho.heapOf HB5.out (fun h=>h))
  clear ho HR1 HB5;rcases hcase with⟨i,hb,rfl⟩|⟨hb,tb,rfl,htab⟩
  ·have HR2:Hid (R=(6,(i:Int))):=Q0 (by rw[HR.out,Zm8 HZ.out hb])
   have hi0:(0:Int)≤(i:Int):=by omega
   have HX3:=Q0 HR3.out.ext;have HRC:=Q0 HR3.out.cell;have f0:=Z02 HR3.out.cell 0;have f1:=Z02 HR3.out.cell 1;have r0:=(Z00 HR3.out.cell 0).trans (rfl:_=some (Value.int .i64 0));have r1:=(Z00 HR3.out.cell 1).trans (rfl:_=some (Value.int .i64 0));clear hb;go_wp2_with fail;refine bodyPost_ret (v:=AggF R) ?_ rfl ⟨rfl,Z1d (Z1d HX3.out _ _ (Nat.le_refl _)) _ _ (Nat.le_refl _)⟩;have hres:Tryz.f54.results = #[.cell 4 37]:=by kernel_rfl
   have rc0:=fun u v=>(Z1y HRC.out u v).1
   have rc1:=fun u v=>(Z1y HRC.out u v).2
   rw[HR2.out];simp only[results,hres];go_simp
  ·have HRP:Hid (R=Z1c l (Z2f l outs)):=Q0 (by rw[HR.out,Zim HZ.out hb])
   have horc:Calls Tryz.prog 26 _ w3 (Z6s (Z7v l (Z2f l outs)) w3):=Zax w3 l _ tb (fun i=>(Z2f l outs).contains i) (HRD.out.ext HR3.out.ext) h40 (htab.congr fun k hk=>by
    congr 1
    rw[Bool.eq_iff_iff];simp only[List.contains_iff_mem,Z3q,Z2u];exact⟨fun h=>⟨hk,h⟩,fun h=>h.2⟩)
   have HORC:=Q0 horc;clear hb htab horc;go_wp2_with fail;refine HORC.out.mono ?_;rintro e w4 ⟨vq,rfl,_,ho4⟩;have HR4:=Q0 (HR3.out.grow ho4);have HB54:=Q0 (ho4.heapOf HB53.out (fun h=>h))
   clear ho4;cases hp:Z7v l (Z2f l outs)with
   | none=>
    have HR2:Hid (R=(9,-1)):=Q0 (by rw[HRP.out];unfold Z1c;rw[hp];rfl)
    clear hp;go_wp2_with fail;refine(Zaq _ 9).mono ?_;rintro e w5 ⟨rfl,ho5⟩;have hr5:=HR4.out.grow ho5;have HX5:=Q0 hr5.ext;have HRC:=Q0 hr5.cell;have f0:=Z02 hr5.cell 0;have f1:=Z02 hr5.cell 1;have r0:=(Z00 hr5.cell 0).trans (rfl:_=some (Value.int .i64 0));have r1:=(Z00 hr5.cell 1).trans (rfl:_=some (Value.int .i64 0));clear ho5 hr5;go_wp2_with fail;refine bodyPost_ret (v:=AggF R) ?_ rfl ⟨rfl,Z1d (Z1d HX5.out _ _ (Nat.le_refl _)) _ _ (Nat.le_refl _)⟩;have hres:Tryz.f54.results = #[.cell 4 37]:=by kernel_rfl
    have rc0:=fun u v=>(Z1y HRC.out u v).1
    have rc1:=fun u v=>(Z1y HRC.out u v).2
    rw[HR2.out];simp only[results,hres];go_simp
   | some od=>
    have HR2:Hid (R=(0,-1)):=Q0 (by rw[HRP.out];unfold Z1c;rw[hp];rfl)
    have HX5:=Q0 HR4.out.ext;have b0:=(Z00 HB54.out 0).trans (rfl:_=some (Value.int .i64 0));have b1:=(Z00 HB54.out 1).trans (rfl:_=some (Value.int .i64 (-1)));have HRC:=Q0 HR4.out.cell;have f0:=Z02 HR4.out.cell 0;have f1:=Z02 HR4.out.cell 1;have r0:=(Z00 HR4.out.cell 0).trans (rfl:_=some (Value.int .i64 0));have r1:=(Z00 HR4.out.cell 1).trans (rfl:_=some (Value.int .i64 0));clear hp;go_wp2_with fail;refine bodyPost_ret (v:=AggF R) ?_ rfl ⟨rfl,Z1d (Z1d HX5.out _ _ (Nat.le_refl _)) _ _ (Nat.le_refl _)⟩;have hres:Tryz.f54.results = #[.cell 4 37]:=by kernel_rfl
    have rc0:=fun u v=>(Z1y HRC.out u v).1
    have rc1:=fun u v=>(Z1y HRC.out u v).2
    rw[HR2.out];simp only[results,hres];go_simp
theorem run_code(c:Nat)(t:Int)(w:World):(Instr.field 37 (.agg #[IN c,I t]) 0).run Tryz.prog w=.ok (IN c) w:=by kernel_rfl
theorem Zm7(l:List Rule)(outs:List B):Z80 l outs=Z0r l outs:=rfl
end Go.Proofs.YtnmhaipjfpongacGreatDoor
