/- The forms of the translated functions,their contracts and the plain laws behind them,put together by a program. -/
import Derived.Test.YtmgcoepbccgjfaaGreatDoorPBc
import Derived.Test.YtmgcoepbccgjfaaGreatDoorRows
import Derived.Deep.Slices
import Derived.Deep.Strs
import Derived.Lib.LaidTab
import Derived.Stop.LaidErr
import Derived.LaidHandle
import Derived.MakeChecks
import Derived.SizedLaws
import Derived.WalkKit
import Derived.ProofKit
import Derived.OpenShut
import Derived.ShutString
import Derived.ChangeOld
import Derived.Below
import Derived.LaidMore
import Derived.Lay
import Derived.Stop.Joined
import Derived.SevenTiedAt
set_option linter.unusedSimpArgs false
set_option linter.unusedVariables false
set_option maxRecDepth 1000000
set_option maxHeartbeats 8000000
section
namespace Go.Proofs.YtmgcoepbccgjfaaGreatDoor
open Go Go.Sh Go.ChangeShapes Go.WideShapes Go.ChangeAt Go.RowKit
theorem clusterNil_inPlace:Tryz.prog.inPlace 3=Rows.clusterNilRow.inPlace:=by unfold Program.inPlace; rw [closure3]; kernel_rfl
theorem clusterNil_k10:((Rows.clusterNilRow.inPlace==Tryz.prog.inPlace 3))=true:=by rw [clusterNil_inPlace]; exact beq_self_eq_true _
end Go.Proofs.YtmgcoepbccgjfaaGreatDoor
end
