/- The forms of the translated functions,their contracts and the plain laws behind them,put together by a program. -/
import Derived.Test.YtmgcoepbccgjfaaGreatDoorPB31
import Derived.Test.YtmgcoepbccgjfaaGreatDoorRows
import Derived.Deep.Slices
import Derived.Deep.Strs
import Derived.Lib.LaidTab
import Derived.Stop.LaidErr
import Derived.LaidHandle
import Derived.MakeChecks
import Derived.SizedLaws
import Derived.WalkKit
import Derived.ProofKit
import Derived.OpenShut
import Derived.ShutString
import Derived.ChangeOld
import Derived.Below
import Derived.LaidMore
import Derived.Lay
import Derived.Stop.Joined
import Derived.SevenTiedAt
set_option linter.unusedSimpArgs false
set_option linter.unusedVariables false
set_option maxRecDepth 1000000
set_option maxHeartbeats 8000000
section
namespace Go.Proofs.YtmgcoepbccgjfaaGreatDoor
open Go Go.Sh Go.ChangeShapes Go.WideShapes Go.ChangeAt Go.RowKit
theorem clusterNil_k14:((Rows.clusterNilRow.maps==(Tryz.f3.params.toList++Rows.clusterNilSpec.plain.varTypes Tryz.prog).any (Tryz.prog.mapsRec ·)))=true:=by kernel_rfl
theorem clusterNil_k15:((Rows.clusterNilRow.ifaces==(Tryz.f3.params.toList++Rows.clusterNilSpec.plain.varTypes Tryz.prog).any (Tryz.prog.ifacesRec ·)))=true:=by kernel_rfl
theorem clusterNil_k16:((Rows.clusterNilRow.mapsOut==Tryz.prog.mapsAmong Tryz.f3.resultTypes.toList))=true:=by kernel_rfl
theorem clusterNil_k17:((Rows.clusterNilRow.loops==(Tryz.f3.params.toList++Rows.clusterNilSpec.plain.varTypes Tryz.prog).any (Tryz.prog.loopsFrom ·)))=true:=by kernel_rfl
theorem clusterNil_k18:((Rows.clusterNilRow.wideKeys==(Tryz.f3.params.toList++Rows.clusterNilSpec.plain.varTypes Tryz.prog++Tryz.f3.resultTypes.toList).any (Tryz.prog.wideKeysFrom ·)))=true:=by kernel_rfl
theorem clusterNil_k19:(Rows.clusterNilSpec.vars.all (Tryz.prog.varReadable ·))=true:=by kernel_rfl
theorem clusterNil_k20:(Tryz.f3.resultTypes.all (λt=>Tryz.prog.readableRec t&&decide (t<Tryz.prog.types.size)))=true:=by kernel_rfl
theorem clusterNil_k21:((Rows.clusterNilRow.ifacesOut==Tryz.f3.resultTypes.toList.any (Tryz.prog.ifacesRec ·)))=true:=by kernel_rfl
theorem clusterNil_k22:((Rows.clusterNilRow.loopsOut==Tryz.f3.resultTypes.toList.any (Tryz.prog.loopsFrom ·)))=true:=by kernel_rfl
theorem clusterNil_k23:((Rows.clusterNilRow.plainKeys==Tryz.prog.plainKeys))=true:=by kernel_rfl
theorem clusterNil_k24:(Rows.clusterNilRow.shortTexts.isNone)=true:=by kernel_rfl
theorem clusterNil_k25:(Tryz.prog.stopsHeard)=true:=by kernel_rfl
theorem clusterNil_k26:(Tryz.prog.mayEnter)=true:=by kernel_rfl
theorem clusterNil_k27:((Rows.clusterNilRow.lifted==Tryz.prog.liftsFinal))=true:=by kernel_rfl
theorem clusterNil_k28:((Tryz.prog.make==some Rows.clusterNilRow.make))=true:=by kernel_rfl
theorem clusterNil_k29:((Rows.clusterNilRow.kinds==(if Rows.clusterNilRow.domain.isEmpty then [] else Tryz.f3.params.toList.map λt=>match Tryz.prog.underlying t with | some (.int k)=>some k | _=>none)))=true:=by kernel_rfl
theorem clusterNil_k30:((Rows.clusterNilRow.pinned==Rows.clusterNilRow.pinnedBy))=true:=by kernel_rfl
theorem clusterNil_k31:((Rows.clusterNilRow.veiled==(Tryz.f3.params.toList++Rows.clusterNilSpec.plain.varTypes Tryz.prog++Tryz.f3.resultTypes.toList).any (Tryz.prog.veiledRec ·)))=true:=by kernel_rfl
theorem clusterNil_k32:(Rows.clusterNilRow.veiledFits Tryz.prog Tryz.f3.params.toList (Tryz.f3.params.toList++Rows.clusterNilSpec.plain.varTypes Tryz.prog++Tryz.f3.resultTypes.toList))=true:=by kernel_rfl
end Go.Proofs.YtmgcoepbccgjfaaGreatDoor
end
