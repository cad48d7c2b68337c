import Derived.Test.YtmdgfpeglgpiiaaGreatDoorRows
import Derived.LaidMore
import Derived.SevenTiedAt
set_option linter.unusedVariables false
set_option linter.unusedSimpArgs false
set_option maxRecDepth 100000
set_option maxHeartbeats 16000000
namespace Go.Proofs.YtmdgfpeglgpiiaaGreatDoor.tr
open Go.Proofs.Tryz
open Go
theorem k0:(Rows.topStatsRow.wf (OpenSpec.ofChange Rows.topStatsSpec))=true:=by kernel_rfl
theorem k1:(laidOutB Tryz.pinned.checked.prog)=true:=by kernel_rfl
theorem k2:(mapsRowed Tryz.pinned.checked.prog)=true:=by kernel_rfl
theorem k3:(Tryz.f6.params.all (Tryz.pinned.checked.prog.readableRec ·))=true:=by kernel_rfl
theorem k4:(namedTie Tryz.pinned.checked.prog Rows.topStatsRow.named Rows.topStatsSpec.vars)=true:=by kernel_rfl
theorem k5:((Rows.topStatsRow.stops== []))=true:=by kernel_rfl
theorem k6:((Tryz.pinned.checked.prog.stops== []))=true:=by kernel_rfl
theorem k7:((Rows.topStatsRow.knobs== []))=true:=by kernel_rfl
theorem k8:((Tryz.pinned.checked.prog.stopKnobs== []))=true:=by kernel_rfl
theorem k9:((Rows.topStatsRow.inPlace==Tryz.pinned.checked.prog.inPlace 6))=true:=by kernel_rfl
theorem Wj:((Rows.topStatsRow.unfollowed==Tryz.pinned.checked.prog.unfollowed 6))=true:=by kernel_rfl
theorem Tk:((Rows.topStatsRow.recurses==Tryz.pinned.checked.prog.recurses 6))=true:=by kernel_rfl
theorem Qy:((Rows.topStatsRow.named==Tryz.pinned.checked.prog.varsNamed 6))=true:=by kernel_rfl
theorem k13:((Rows.topStatsRow.maps==(Tryz.f6.params.toList++Rows.topStatsSpec.plain.varTypes Tryz.pinned.checked.prog).any (Tryz.pinned.checked.prog.mapsRec ·)))=true:=by kernel_rfl
theorem k14:((Rows.topStatsRow.ifaces==(Tryz.f6.params.toList++Rows.topStatsSpec.plain.varTypes Tryz.pinned.checked.prog).any (Tryz.pinned.checked.prog.ifacesRec ·)))=true:=by kernel_rfl
theorem k15:((Rows.topStatsRow.mapsOut==Tryz.pinned.checked.prog.mapsAmong Tryz.f6.resultTypes.toList))=true:=by kernel_rfl
theorem k16:((Rows.topStatsRow.loops==(Tryz.f6.params.toList++Rows.topStatsSpec.plain.varTypes Tryz.pinned.checked.prog).any (Tryz.pinned.checked.prog.loopsFrom ·)))=true:=by kernel_rfl
theorem k17:((Rows.topStatsRow.wideKeys==(Tryz.f6.params.toList++Rows.topStatsSpec.plain.varTypes Tryz.pinned.checked.prog++Tryz.f6.resultTypes.toList).any (Tryz.pinned.checked.prog.wideKeysFrom ·)))=true:=by kernel_rfl
theorem k18:(Rows.topStatsSpec.vars.all (Tryz.pinned.checked.prog.varReadable ·))=true:=by kernel_rfl
theorem k19:(Tryz.f6.resultTypes.all (λt=>Tryz.pinned.checked.prog.readableRec t && decide (t<Tryz.pinned.checked.prog.types.size)))=true:=by kernel_rfl
theorem k20:((Rows.topStatsRow.ifacesOut==Tryz.f6.resultTypes.toList.any (Tryz.pinned.checked.prog.ifacesRec ·)))=true:=by kernel_rfl
theorem k21:((Rows.topStatsRow.loopsOut==Tryz.f6.resultTypes.toList.any (Tryz.pinned.checked.prog.loopsFrom ·)))=true:=by kernel_rfl
theorem k22:((Rows.topStatsRow.plainKeys==Tryz.pinned.checked.prog.plainKeys))=true:=by kernel_rfl
theorem k23:(Rows.topStatsRow.shortTexts.isNone)=true:=by kernel_rfl
theorem k24:(Tryz.pinned.checked.prog.stopsHeard)=true:=by kernel_rfl
theorem k25:(Tryz.pinned.checked.prog.mayEnter)=true:=by kernel_rfl
theorem k26:((Rows.topStatsRow.lifted==Tryz.pinned.checked.prog.liftsFinal))=true:=by kernel_rfl
theorem k27:((Tryz.pinned.checked.prog.make==some Rows.topStatsRow.make))=true:=by kernel_rfl
theorem k28:((Rows.topStatsRow.kinds==(if Rows.topStatsRow.domain.isEmpty then [] else Tryz.f6.params.toList.map λt=>match Tryz.pinned.checked.prog.underlying t with | some (.int k)=>some k | _=>none)))=true:=by kernel_rfl
theorem k29:((Rows.topStatsRow.pinned==Rows.topStatsRow.pinnedBy))=true:=by kernel_rfl
theorem k30:((Rows.topStatsRow.veiled==(Tryz.f6.params.toList++Rows.topStatsSpec.plain.varTypes Tryz.pinned.checked.prog++Tryz.f6.resultTypes.toList).any (Tryz.pinned.checked.prog.veiledRec ·)))=true:=by kernel_rfl
theorem k31:(Rows.topStatsRow.veiledFits Tryz.pinned.checked.prog Tryz.f6.params.toList (Tryz.f6.params.toList++Rows.topStatsSpec.plain.varTypes Tryz.pinned.checked.prog++Tryz.f6.resultTypes.toList))=true:=by kernel_rfl
theorem fu {a b:Bool} (h:a=true) (k:b=true):(a && b)=true:=by rw[h,k];rfl
theorem closed:joinedFacts Tryz.pinned.checked.prog 6 Tryz.f6 Rows.topStatsSpec Rows.topStatsRow=true:=by
 delta joinedFacts
 exact (fu (fu (fu (fu (fu (fu (fu (fu (fu (fu (fu (fu (fu (fu (fu (fu (fu (fu (fu (fu (fu (fu (fu (fu (fu (fu (fu (fu (fu (fu (fu k0 k1) k2) k3) k4) k5) k6) k7) k8) k9) Wj) Tk) Qy) k13) k14) k15) k16) k17) k18) k19) k20) k21) k22) k23) k24) k25) k26) k27) k28) k29) k30) k31)
theorem named:Tryz.pinned.checked.prog.funcNamed Rows.topStatsRow.func=some 6:=by kernel_rfl
theorem inst:Tryz.f6.isInstance Tryz.pinned.checked.prog Rows.topStatsRow.origin Rows.topStatsRow.targs:=of_decide_eq_true (by kernel_rfl)
theorem wrap:Tryz.f6.isWrapper Tryz.pinned.checked.prog Rows.topStatsRow.wrapper Rows.topStatsRow.mainSum:=by unfold Func.isWrapper;first | (rw[if_pos (by decide+kernel)];kernel_rfl) | (rw[if_neg (by decide+kernel)];exact⟨rfl,rfl⟩)
theorem wft:Rows.topStatsRow.wfByText (OpenSpec.ofChange Rows.topStatsSpec)=true:=by kernel_rfl
theorem mainIs:Tryz.pinned.checked.prog.mainIs=some (true,"dad581d85041b50d1767ac5fce7866784ea3393a02c56183205e40028671b087".toList):=by kernel_rfl
theorem looks:true=Tryz.pinned.checked.prog.looks []:=by kernel_rfl
theorem goes:false=Rows.topStatsRow.goesBy Tryz.pinned.checked.prog:=by kernel_rfl
theorem wants:([24,46].all λu=>!Tryz.pinned.checked.prog.wantsStandIn u)=true:=by kernel_rfl
end Go.Proofs.YtmdgfpeglgpiiaaGreatDoor.tr
