/- The forms of the translated functions,their contracts and the plain laws behind them,put together by a program. -/
import Derived.Test.YtihafpcnhgapdaaGreatDoorPQ19
import Derived.Test.YtihafpcnhgapdaaGreatDoorRows
import Derived.Deep.Slices
import Derived.Deep.Strs
import Derived.Lib.LaidTab
import Derived.Stop.LaidErr
import Derived.LaidHandle
import Derived.MakeChecks
import Derived.SizedLaws
import Derived.WalkKit
import Derived.ProofKit
import Derived.OpenShut
import Derived.ShutString
import Derived.ChangeOld
import Derived.Below
import Derived.LaidMore
import Derived.Lay
import Derived.Stop.Joined
import Derived.SevenTiedAt
set_option linter.unusedSimpArgs false
set_option linter.unusedVariables false
set_option maxRecDepth 1000000
set_option maxHeartbeats 8000000
section
namespace Go.Proofs.YtihafpcnhgapdaaGreatDoor
open Go Go.Sh Go.ChangeShapes Go.WideShapes Go.ChangeAt Go.RowKit
theorem replicaConfigs_k14:((Rows.replicaConfigsRow.maps==(Tryz.f3.params.toList++Rows.replicaConfigsSpec.plain.varTypes Tryz.prog).any (Tryz.prog.mapsRec ·)))=true:=by kernel_rfl
theorem replicaConfigs_k15:((Rows.replicaConfigsRow.ifaces==(Tryz.f3.params.toList++Rows.replicaConfigsSpec.plain.varTypes Tryz.prog).any (Tryz.prog.ifacesRec ·)))=true:=by kernel_rfl
theorem replicaConfigs_k16:((Rows.replicaConfigsRow.mapsOut==Tryz.prog.mapsAmong Tryz.f3.resultTypes.toList))=true:=by kernel_rfl
theorem replicaConfigs_k17:((Rows.replicaConfigsRow.loops==(Tryz.f3.params.toList++Rows.replicaConfigsSpec.plain.varTypes Tryz.prog).any (Tryz.prog.loopsFrom ·)))=true:=by kernel_rfl
theorem replicaConfigs_k18:((Rows.replicaConfigsRow.wideKeys==(Tryz.f3.params.toList++Rows.replicaConfigsSpec.plain.varTypes Tryz.prog++Tryz.f3.resultTypes.toList).any (Tryz.prog.wideKeysFrom ·)))=true:=by kernel_rfl
theorem replicaConfigs_k19:(Rows.replicaConfigsSpec.vars.all (Tryz.prog.varReadable ·))=true:=by kernel_rfl
theorem replicaConfigs_k20:(Tryz.f3.resultTypes.all (fun t=>Tryz.prog.readableRec t&&decide (t<Tryz.prog.types.size)))=true:=by kernel_rfl
theorem replicaConfigs_k21:((Rows.replicaConfigsRow.ifacesOut==Tryz.f3.resultTypes.toList.any (Tryz.prog.ifacesRec ·)))=true:=by kernel_rfl
theorem replicaConfigs_k22:((Rows.replicaConfigsRow.loopsOut==Tryz.f3.resultTypes.toList.any (Tryz.prog.loopsFrom ·)))=true:=by kernel_rfl
theorem replicaConfigs_k23:((Rows.replicaConfigsRow.plainKeys==Tryz.prog.plainKeys))=true:=by kernel_rfl
theorem replicaConfigs_k24:(Rows.replicaConfigsRow.shortTexts.isNone)=true:=by kernel_rfl
theorem replicaConfigs_k25:(Tryz.prog.stopsHeard)=true:=by kernel_rfl
theorem replicaConfigs_k26:(Tryz.prog.mayEnter)=true:=by kernel_rfl
theorem replicaConfigs_k27:((Rows.replicaConfigsRow.lifted==Tryz.prog.liftsFinal))=true:=by kernel_rfl
theorem replicaConfigs_k28:((Tryz.prog.make==some Rows.replicaConfigsRow.make))=true:=by kernel_rfl
theorem replicaConfigs_k29:((Rows.replicaConfigsRow.kinds==(if Rows.replicaConfigsRow.domain.isEmpty then [] else Tryz.f3.params.toList.map fun t=>match Tryz.prog.underlying t with | some (.int k)=>some k | _=>none)))=true:=by kernel_rfl
theorem replicaConfigs_k30:((Rows.replicaConfigsRow.pinned==Rows.replicaConfigsRow.pinnedBy))=true:=by kernel_rfl
theorem replicaConfigs_k31:((Rows.replicaConfigsRow.veiled==(Tryz.f3.params.toList++Rows.replicaConfigsSpec.plain.varTypes Tryz.prog++Tryz.f3.resultTypes.toList).any (Tryz.prog.veiledRec ·)))=true:=by kernel_rfl
theorem replicaConfigs_k32:(Rows.replicaConfigsRow.veiledFits Tryz.prog Tryz.f3.params.toList (Tryz.f3.params.toList++Rows.replicaConfigsSpec.plain.varTypes Tryz.prog++Tryz.f3.resultTypes.toList))=true:=by kernel_rfl
end Go.Proofs.YtihafpcnhgapdaaGreatDoor
end
