/- The forms of the translated functions, their contracts and the plain laws behind them, put together by a program. -/
import Derived.Test.YtgemgaofamloeaaGreatDoorPW19
import Derived.Test.YtgemgaofamloeaaGreatDoorRows
import Derived.Deep.Slices
import Derived.Deep.Strs
import Derived.Lib.LaidTab
import Derived.Stop.LaidErr
import Derived.LaidHandle
import Derived.MakeChecks
import Derived.SizedLaws
import Derived.WalkKit
import Derived.ProofKit
import Derived.OpenShut
import Derived.ShutString
import Derived.ChangeOld
import Derived.Below
import Derived.LaidMore
import Derived.Lay
import Derived.Stop.Joined
import Derived.SevenTiedAt
set_option linter.unusedSimpArgs false
set_option linter.unusedVariables false
set_option maxRecDepth 1000000
set_option maxHeartbeats 8000000
section
namespace Go.Proofs.YtgemgaofamloeaaGreatDoor
open Go Go.Sh Go.ChangeShapes Go.WideShapes Go.ChangeAt Go.RowKit
theorem replicaNone_k14 : ((Rows.replicaNoneRow.maps == (Tryz.f3.params.toList ++ Rows.replicaNoneSpec.plain.varTypes Tryz.prog).any (Tryz.prog.mapsRec ·))) = true := by kernel_rfl
theorem replicaNone_k15 : ((Rows.replicaNoneRow.ifaces == (Tryz.f3.params.toList ++ Rows.replicaNoneSpec.plain.varTypes Tryz.prog).any (Tryz.prog.ifacesRec ·))) = true := by kernel_rfl
theorem replicaNone_k16 : ((Rows.replicaNoneRow.mapsOut == Tryz.prog.mapsAmong Tryz.f3.resultTypes.toList)) = true := by kernel_rfl
theorem replicaNone_k17 : ((Rows.replicaNoneRow.loops == (Tryz.f3.params.toList ++ Rows.replicaNoneSpec.plain.varTypes Tryz.prog).any (Tryz.prog.loopsFrom ·))) = true := by kernel_rfl
theorem replicaNone_k18 : ((Rows.replicaNoneRow.wideKeys == (Tryz.f3.params.toList ++ Rows.replicaNoneSpec.plain.varTypes Tryz.prog ++ Tryz.f3.resultTypes.toList).any (Tryz.prog.wideKeysFrom ·))) = true := by kernel_rfl
theorem replicaNone_k19 : (Rows.replicaNoneSpec.vars.all (Tryz.prog.varReadable ·)) = true := by kernel_rfl
theorem replicaNone_k20 : (Tryz.f3.resultTypes.all (fun t => Tryz.prog.readableRec t && decide (t < Tryz.prog.types.size))) = true := by kernel_rfl
theorem replicaNone_k21 : ((Rows.replicaNoneRow.ifacesOut == Tryz.f3.resultTypes.toList.any (Tryz.prog.ifacesRec ·))) = true := by kernel_rfl
theorem replicaNone_k22 : ((Rows.replicaNoneRow.loopsOut == Tryz.f3.resultTypes.toList.any (Tryz.prog.loopsFrom ·))) = true := by kernel_rfl
theorem replicaNone_k23 : ((Rows.replicaNoneRow.plainKeys == Tryz.prog.plainKeys)) = true := by kernel_rfl
theorem replicaNone_k24 : (Rows.replicaNoneRow.shortTexts.isNone) = true := by kernel_rfl
theorem replicaNone_k25 : (Tryz.prog.stopsHeard) = true := by kernel_rfl
theorem replicaNone_k26 : (Tryz.prog.mayEnter) = true := by kernel_rfl
theorem replicaNone_k27 : ((Rows.replicaNoneRow.lifted == Tryz.prog.liftsFinal)) = true := by kernel_rfl
theorem replicaNone_k28 : ((Tryz.prog.make == some Rows.replicaNoneRow.make)) = true := by kernel_rfl
theorem replicaNone_k29 : ((Rows.replicaNoneRow.kinds == (if Rows.replicaNoneRow.domain.isEmpty then [] else Tryz.f3.params.toList.map fun t => match Tryz.prog.underlying t with | some (.int k) => some k | _ => none))) = true := by kernel_rfl
theorem replicaNone_k30 : ((Rows.replicaNoneRow.pinned == Rows.replicaNoneRow.pinnedBy)) = true := by kernel_rfl
theorem replicaNone_k31 : ((Rows.replicaNoneRow.veiled == (Tryz.f3.params.toList ++ Rows.replicaNoneSpec.plain.varTypes Tryz.prog ++ Tryz.f3.resultTypes.toList).any (Tryz.prog.veiledRec ·))) = true := by kernel_rfl
theorem replicaNone_k32 : (Rows.replicaNoneRow.veiledFits Tryz.prog Tryz.f3.params.toList (Tryz.f3.params.toList ++ Rows.replicaNoneSpec.plain.varTypes Tryz.prog ++ Tryz.f3.resultTypes.toList)) = true := by kernel_rfl
end Go.Proofs.YtgemgaofamloeaaGreatDoor
end
