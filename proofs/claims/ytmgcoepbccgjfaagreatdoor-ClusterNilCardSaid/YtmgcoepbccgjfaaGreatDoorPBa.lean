/- The forms of the translated functions,their contracts and the plain laws behind them,put together by a program. -/
import Derived.Test.YtmgcoepbccgjfaaGreatDoorPB31
import Derived.Test.YtmgcoepbccgjfaaGreatDoorRows
import Derived.Deep.Slices
import Derived.Deep.Strs
import Derived.Lib.LaidTab
import Derived.Stop.LaidErr
import Derived.LaidHandle
import Derived.MakeChecks
import Derived.SizedLaws
import Derived.WalkKit
import Derived.ProofKit
import Derived.OpenShut
import Derived.ShutString
import Derived.ChangeOld
import Derived.Below
import Derived.LaidMore
import Derived.Lay
import Derived.Stop.Joined
import Derived.SevenTiedAt
set_option linter.unusedSimpArgs false
set_option linter.unusedVariables false
set_option maxRecDepth 1000000
set_option maxHeartbeats 8000000
section
namespace Go.Proofs.YtmgcoepbccgjfaaGreatDoor
open Go Go.Sh Go.ChangeShapes Go.WideShapes Go.ChangeAt Go.RowKit
theorem clusterNil_k1:(Rows.clusterNilRow.wf (OpenSpec.ofChange Rows.clusterNilSpec))=true:=by kernel_rfl
theorem clusterNil_k2:(laidOutB Tryz.prog)=true:=laidOut
theorem clusterNil_k4:(Tryz.f3.params.all (Tryz.prog.readableRec ·))=true:=by kernel_rfl
theorem clusterNil_k5:(namedTie Tryz.prog Rows.clusterNilRow.named Rows.clusterNilSpec.vars)=true:=by kernel_rfl
theorem clusterNil_k6:((Rows.clusterNilRow.stops==[]))=true:=by kernel_rfl
theorem clusterNil_k7:((Tryz.prog.stops==[]))=true:=by kernel_rfl
theorem clusterNil_k8:((Rows.clusterNilRow.knobs==[]))=true:=by kernel_rfl
theorem clusterNil_k9:((Tryz.prog.stopKnobs==[]))=true:=by kernel_rfl
theorem clusterNil_named:Tryz.prog.funcNamed Rows.clusterNilRow.func=some 3:=by kernel_rfl
theorem clusterNil_wrap:Tryz.f3.isWrapper Tryz.prog Rows.clusterNilRow.wrapper Rows.clusterNilRow.mainSum:=by unfold Func.isWrapper; first | (rw [if_pos (by decide +kernel)]; kernel_rfl) | (rw [if_neg (by decide +kernel)]; exact ⟨rfl,rfl⟩)
end Go.Proofs.YtmgcoepbccgjfaaGreatDoor
end
