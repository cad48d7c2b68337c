import Derived.JoinedOf
import Derived.LaidMore
import Derived.KernelRfl
import Derived.SevenTiedAt
import Derived.Test.YtmdgfpeglgpiiaaGreatDoorRows
set_option linter.unusedVariables false
set_option linter.unusedSimpArgs false
set_option maxRecDepth 100000
set_option maxHeartbeats 16000000
namespace Go.Proofs.YtmdgfpeglgpiiaaGreatDoor.topSums
open Go.Proofs.Tryz
open Go
theorem k0:(Rows.topSumsRow.wf (OpenSpec.ofChange Rows.topSumsSpec))=true:=by kernel_rfl
theorem k1:(laidOutB Tryz.pinned.checked.prog)=true:=by kernel_rfl
theorem k2:(mapsRowed Tryz.pinned.checked.prog)=true:=by kernel_rfl
theorem k3:(Tryz.f3.params.all (Tryz.pinned.checked.prog.readableRec ·))=true:=by kernel_rfl
theorem k4:(namedTie Tryz.pinned.checked.prog Rows.topSumsRow.named Rows.topSumsSpec.vars)=true:=by kernel_rfl
theorem k5:((Rows.topSumsRow.stops== []))=true:=by kernel_rfl
theorem k6:((Tryz.pinned.checked.prog.stops== []))=true:=by kernel_rfl
theorem k7:((Rows.topSumsRow.knobs== []))=true:=by kernel_rfl
theorem k8:((Tryz.pinned.checked.prog.stopKnobs== []))=true:=by kernel_rfl
theorem k9:((Rows.topSumsRow.inPlace==Tryz.pinned.checked.prog.inPlace 3))=true:=by kernel_rfl
theorem Wj:((Rows.topSumsRow.unfollowed==Tryz.pinned.checked.prog.unfollowed 3))=true:=by kernel_rfl
theorem Tk:((Rows.topSumsRow.recurses==Tryz.pinned.checked.prog.recurses 3))=true:=by kernel_rfl
theorem Qy:((Rows.topSumsRow.named==Tryz.pinned.checked.prog.varsNamed 3))=true:=by kernel_rfl
theorem k13:((Rows.topSumsRow.maps==(Tryz.f3.params.toList++Rows.topSumsSpec.plain.varTypes Tryz.pinned.checked.prog).any (Tryz.pinned.checked.prog.mapsRec ·)))=true:=by kernel_rfl
theorem k14:((Rows.topSumsRow.ifaces==(Tryz.f3.params.toList++Rows.topSumsSpec.plain.varTypes Tryz.pinned.checked.prog).any (Tryz.pinned.checked.prog.ifacesRec ·)))=true:=by kernel_rfl
theorem k15:((Rows.topSumsRow.mapsOut==Tryz.pinned.checked.prog.mapsAmong Tryz.f3.resultTypes.toList))=true:=by kernel_rfl
theorem k16:((Rows.topSumsRow.loops==(Tryz.f3.params.toList++Rows.topSumsSpec.plain.varTypes Tryz.pinned.checked.prog).any (Tryz.pinned.checked.prog.loopsFrom ·)))=true:=by kernel_rfl
theorem k17:((Rows.topSumsRow.wideKeys==(Tryz.f3.params.toList++Rows.topSumsSpec.plain.varTypes Tryz.pinned.checked.prog++Tryz.f3.resultTypes.toList).any (Tryz.pinned.checked.prog.wideKeysFrom ·)))=true:=by kernel_rfl
theorem k18:(Rows.topSumsSpec.vars.all (Tryz.pinned.checked.prog.varReadable ·))=true:=by kernel_rfl
theorem k19:(Tryz.f3.resultTypes.all (λt=>Tryz.pinned.checked.prog.readableRec t && decide (t<Tryz.pinned.checked.prog.types.size)))=true:=by kernel_rfl
theorem k20:((Rows.topSumsRow.ifacesOut==Tryz.f3.resultTypes.toList.any (Tryz.pinned.checked.prog.ifacesRec ·)))=true:=by kernel_rfl
theorem k21:((Rows.topSumsRow.loopsOut==Tryz.f3.resultTypes.toList.any (Tryz.pinned.checked.prog.loopsFrom ·)))=true:=by kernel_rfl
theorem k22:((Rows.topSumsRow.plainKeys==Tryz.pinned.checked.prog.plainKeys))=true:=by kernel_rfl
theorem k23:(Rows.topSumsRow.shortTexts.isNone)=true:=by kernel_rfl
theorem k24:(Tryz.pinned.checked.prog.stopsHeard)=true:=by kernel_rfl
theorem k25:(Tryz.pinned.checked.prog.mayEnter)=true:=by kernel_rfl
theorem k26:((Rows.topSumsRow.lifted==Tryz.pinned.checked.prog.liftsFinal))=true:=by kernel_rfl
theorem k27:((Tryz.pinned.checked.prog.make==some Rows.topSumsRow.make))=true:=by kernel_rfl
theorem k28:((Rows.topSumsRow.kinds==(if Rows.topSumsRow.domain.isEmpty then [] else Tryz.f3.params.toList.map λt=>match Tryz.pinned.checked.prog.underlying t with | some (.int k)=>some k | _=>none)))=true:=by kernel_rfl
theorem k29:((Rows.topSumsRow.pinned==Rows.topSumsRow.pinnedBy))=true:=by kernel_rfl
theorem k30:((Rows.topSumsRow.veiled==(Tryz.f3.params.toList++Rows.topSumsSpec.plain.varTypes Tryz.pinned.checked.prog++Tryz.f3.resultTypes.toList).any (Tryz.pinned.checked.prog.veiledRec ·)))=true:=by kernel_rfl
theorem k31:(Rows.topSumsRow.veiledFits Tryz.pinned.checked.prog Tryz.f3.params.toList (Tryz.f3.params.toList++Rows.topSumsSpec.plain.varTypes Tryz.pinned.checked.prog++Tryz.f3.resultTypes.toList))=true:=by kernel_rfl
theorem fu {a b:Bool} (h:a=true) (k:b=true):(a && b)=true:=by rw[h,k];rfl
theorem closed:joinedFacts Tryz.pinned.checked.prog 3 Tryz.f3 Rows.topSumsSpec Rows.topSumsRow=true:=by
 delta joinedFacts
 exact (fu (fu (fu (fu (fu (fu (fu (fu (fu (fu (fu (fu (fu (fu (fu (fu (fu (fu (fu (fu (fu (fu (fu (fu (fu (fu (fu (fu (fu (fu (fu k0 k1) k2) k3) k4) k5) k6) k7) k8) k9) Wj) Tk) Qy) k13) k14) k15) k16) k17) k18) k19) k20) k21) k22) k23) k24) k25) k26) k27) k28) k29) k30) k31)
theorem named:Tryz.pinned.checked.prog.funcNamed Rows.topSumsRow.func=some 3:=by kernel_rfl
theorem inst:Tryz.f3.isInstance Tryz.pinned.checked.prog Rows.topSumsRow.origin Rows.topSumsRow.targs:=of_decide_eq_true (by kernel_rfl)
theorem wrap:Tryz.f3.isWrapper Tryz.pinned.checked.prog Rows.topSumsRow.wrapper Rows.topSumsRow.mainSum:=by unfold Func.isWrapper;first | (rw[if_pos (by decide+kernel)];kernel_rfl) | (rw[if_neg (by decide+kernel)];exact⟨rfl,rfl⟩)
theorem wft:Rows.topSumsRow.wfByText (OpenSpec.ofChange Rows.topSumsSpec)=true:=by kernel_rfl
theorem mainIs:Tryz.pinned.checked.prog.mainIs=some (true,"dad581d85041b50d1767ac5fce7866784ea3393a02c56183205e40028671b087".toList):=by kernel_rfl
theorem looks:true=Tryz.pinned.checked.prog.looks []:=by kernel_rfl
theorem goes:false=Rows.topSumsRow.goesBy Tryz.pinned.checked.prog:=by kernel_rfl
theorem wants:([24,25].all λu=>!Tryz.pinned.checked.prog.wantsStandIn u)=true:=by kernel_rfl
end Go.Proofs.YtmdgfpeglgpiiaaGreatDoor.topSums
