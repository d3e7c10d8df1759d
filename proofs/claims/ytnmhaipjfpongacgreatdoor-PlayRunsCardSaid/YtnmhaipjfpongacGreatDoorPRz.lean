/- A part of this claim's proof;each theorem bears its own conditions. -/
import Derived.Test.YtnmhaipjfpongacGreatDoorPR50
namespace Go.Proofs.YtnmhaipjfpongacGreatDoor.playRunsDone
open Go.ChangeShapes Go.WideShapes Go.ChangeAt Go.RowKit
theorem plain(f:FuncId)(fn:Func)(hf:Tryz.pinned.checked.prog.funcNamed "kilnyard/kilnyardlaw3.PlayRuns" = some f)(hfn:Tryz.pinned.checked.prog.funcs[f]?=some fn) :
  true=Tryz.pinned.checked.prog.looks []∧∀(j:Nat) t,fn.params[j]?=some t→Tryz.pinned.checked.prog.wantsStandIn t=false:=by
 obtain rfl:f=10:=Option.some.inj ((show Tryz.prog.funcNamed "kilnyard/kilnyardlaw3.PlayRuns" = some 10 by kernel_rfl).symm.trans hf) |>.symm
 obtain rfl:fn=Tryz.f10:=(Option.some.inj (Tryz.func10.symm.trans hfn)).symm;refine⟨by kernel_rfl,fun j t ht=>?_⟩
 rw[Tryz.params10]at ht;have hm:t∈[46]:=by simpa using Array.mem_of_getElem? ht
 have hall:([46].all fun u=>!Tryz.prog.wantsStandIn u)=true:=by kernel_rfl
 exact(show Tryz.prog.wantsStandIn t=false by simpa using List.all_eq_true.1 hall t hm)
theorem wf:Rows.playRunsRow.wfByText (OpenSpec.ofChange Rows.playRunsSpec)=true:=by kernel_rfl
theorem isMain:Tryz.pinned.checked.prog.mainIs=some (Rows.playRunsCard.stood.harness.1,Rows.playRunsCard.stood.harness.2.toList):=by kernel_rfl
theorem goes:false=Rows.playRunsRow.goesBy Tryz.pinned.checked.prog:=by kernel_rfl
theorem proved:Rows.PlayRunsCardSaid:=
 Zbc .later _ _ _ _ _ said wf playRuns_row_tie rfl ⟨rfl,rfl⟩ isMain rfl plain goes
end Go.Proofs.YtnmhaipjfpongacGreatDoor.playRunsDone
