import Derived.JoinedOf
import Derived.LaidMore
import Derived.KernelRfl
import Derived.SevenTiedAt
import Derived.Test.YtmdgfpeglgpiiaaGreatDoorRows
set_option linter.unusedVariables false
set_option linter.unusedSimpArgs false
set_option maxRecDepth 100000
set_option maxHeartbeats 16000000
namespace Go.Proofs.YtmdgfpeglgpiiaaGreatDoor.topPath
open Go.Proofs.Tryz
open Go
theorem k0:(Rows.topPathRow.wf (OpenSpec.ofChange Rows.topPathSpec))=true:=by kernel_rfl
theorem k1:(laidOutB Tryz.pinned.checked.prog)=true:=by kernel_rfl
theorem k2:(mapsRowed Tryz.pinned.checked.prog)=true:=by kernel_rfl
theorem k3:(Tryz.f8.params.all (Tryz.pinned.checked.prog.readableRec ·))=true:=by kernel_rfl
theorem k4:(namedTie Tryz.pinned.checked.prog Rows.topPathRow.named Rows.topPathSpec.vars)=true:=by kernel_rfl
theorem k5:((Rows.topPathRow.stops== []))=true:=by kernel_rfl
theorem k6:((Tryz.pinned.checked.prog.stops== []))=true:=by kernel_rfl
theorem k7:((Rows.topPathRow.knobs== []))=true:=by kernel_rfl
theorem k8:((Tryz.pinned.checked.prog.stopKnobs== []))=true:=by kernel_rfl
theorem k9:((Rows.topPathRow.inPlace==Tryz.pinned.checked.prog.inPlace 8))=true:=by kernel_rfl
theorem Wj:((Rows.topPathRow.unfollowed==Tryz.pinned.checked.prog.unfollowed 8))=true:=by kernel_rfl
theorem Tk:((Rows.topPathRow.recurses==Tryz.pinned.checked.prog.recurses 8))=true:=by kernel_rfl
theorem Qy:((Rows.topPathRow.named==Tryz.pinned.checked.prog.varsNamed 8))=true:=by kernel_rfl
theorem k13:((Rows.topPathRow.maps==(Tryz.f8.params.toList++Rows.topPathSpec.plain.varTypes Tryz.pinned.checked.prog).any (Tryz.pinned.checked.prog.mapsRec ·)))=true:=by kernel_rfl
theorem k14:((Rows.topPathRow.ifaces==(Tryz.f8.params.toList++Rows.topPathSpec.plain.varTypes Tryz.pinned.checked.prog).any (Tryz.pinned.checked.prog.ifacesRec ·)))=true:=by kernel_rfl
theorem k15:((Rows.topPathRow.mapsOut==Tryz.pinned.checked.prog.mapsAmong Tryz.f8.resultTypes.toList))=true:=by kernel_rfl
theorem k16:((Rows.topPathRow.loops==(Tryz.f8.params.toList++Rows.topPathSpec.plain.varTypes Tryz.pinned.checked.prog).any (Tryz.pinned.checked.prog.loopsFrom ·)))=true:=by kernel_rfl
theorem k17:((Rows.topPathRow.wideKeys==(Tryz.f8.params.toList++Rows.topPathSpec.plain.varTypes Tryz.pinned.checked.prog++Tryz.f8.resultTypes.toList).any (Tryz.pinned.checked.prog.wideKeysFrom ·)))=true:=by kernel_rfl
theorem k18:(Rows.topPathSpec.vars.all (Tryz.pinned.checked.prog.varReadable ·))=true:=by kernel_rfl
theorem k19:(Tryz.f8.resultTypes.all (λt=>Tryz.pinned.checked.prog.readableRec t && decide (t<Tryz.pinned.checked.prog.types.size)))=true:=by kernel_rfl
theorem k20:((Rows.topPathRow.ifacesOut==Tryz.f8.resultTypes.toList.any (Tryz.pinned.checked.prog.ifacesRec ·)))=true:=by kernel_rfl
theorem k21:((Rows.topPathRow.loopsOut==Tryz.f8.resultTypes.toList.any (Tryz.pinned.checked.prog.loopsFrom ·)))=true:=by kernel_rfl
theorem k22:((Rows.topPathRow.plainKeys==Tryz.pinned.checked.prog.plainKeys))=true:=by kernel_rfl
theorem k23:(Rows.topPathRow.shortTexts.isNone)=true:=by kernel_rfl
theorem k24:(Tryz.pinned.checked.prog.stopsHeard)=true:=by kernel_rfl
theorem k25:(Tryz.pinned.checked.prog.mayEnter)=true:=by kernel_rfl
theorem k26:((Rows.topPathRow.lifted==Tryz.pinned.checked.prog.liftsFinal))=true:=by kernel_rfl
theorem k27:((Tryz.pinned.checked.prog.make==some Rows.topPathRow.make))=true:=by kernel_rfl
theorem k28:((Rows.topPathRow.kinds==(if Rows.topPathRow.domain.isEmpty then [] else Tryz.f8.params.toList.map λt=>match Tryz.pinned.checked.prog.underlying t with | some (.int k)=>some k | _=>none)))=true:=by kernel_rfl
theorem k29:((Rows.topPathRow.pinned==Rows.topPathRow.pinnedBy))=true:=by kernel_rfl
theorem k30:((Rows.topPathRow.veiled==(Tryz.f8.params.toList++Rows.topPathSpec.plain.varTypes Tryz.pinned.checked.prog++Tryz.f8.resultTypes.toList).any (Tryz.pinned.checked.prog.veiledRec ·)))=true:=by kernel_rfl
theorem k31:(Rows.topPathRow.veiledFits Tryz.pinned.checked.prog Tryz.f8.params.toList (Tryz.f8.params.toList++Rows.topPathSpec.plain.varTypes Tryz.pinned.checked.prog++Tryz.f8.resultTypes.toList))=true:=by kernel_rfl
theorem fu {a b:Bool} (h:a=true) (k:b=true):(a && b)=true:=by rw[h,k];rfl
theorem closed:joinedFacts Tryz.pinned.checked.prog 8 Tryz.f8 Rows.topPathSpec Rows.topPathRow=true:=by
 delta joinedFacts
 exact (fu (fu (fu (fu (fu (fu (fu (fu (fu (fu (fu (fu (fu (fu (fu (fu (fu (fu (fu (fu (fu (fu (fu (fu (fu (fu (fu (fu (fu (fu (fu k0 k1) k2) k3) k4) k5) k6) k7) k8) k9) Wj) Tk) Qy) k13) k14) k15) k16) k17) k18) k19) k20) k21) k22) k23) k24) k25) k26) k27) k28) k29) k30) k31)
theorem named:Tryz.pinned.checked.prog.funcNamed Rows.topPathRow.func=some 8:=by kernel_rfl
theorem inst:Tryz.f8.isInstance Tryz.pinned.checked.prog Rows.topPathRow.origin Rows.topPathRow.targs:=of_decide_eq_true (by kernel_rfl)
theorem wrap:Tryz.f8.isWrapper Tryz.pinned.checked.prog Rows.topPathRow.wrapper Rows.topPathRow.mainSum:=by unfold Func.isWrapper;first | (rw[if_pos (by decide+kernel)];kernel_rfl) | (rw[if_neg (by decide+kernel)];exact⟨rfl,rfl⟩)
theorem wft:Rows.topPathRow.wfByText (OpenSpec.ofChange Rows.topPathSpec)=true:=by kernel_rfl
theorem mainIs:Tryz.pinned.checked.prog.mainIs=some (true,"dad581d85041b50d1767ac5fce7866784ea3393a02c56183205e40028671b087".toList):=by kernel_rfl
theorem looks:true=Tryz.pinned.checked.prog.looks []:=by kernel_rfl
theorem goes:false=Rows.topPathRow.goesBy Tryz.pinned.checked.prog:=by kernel_rfl
theorem wants:([24,46,5].all λu=>!Tryz.pinned.checked.prog.wantsStandIn u)=true:=by kernel_rfl
end Go.Proofs.YtmdgfpeglgpiiaaGreatDoor.topPath
