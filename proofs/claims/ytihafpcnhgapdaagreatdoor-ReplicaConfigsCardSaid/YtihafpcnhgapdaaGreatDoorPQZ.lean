/- ReplicaConfigs,closing: CQe -/
import Derived.Test.YtihafpcnhgapdaaGreatDoorPQ20
import Derived.Test.YtihafpcnhgapdaaGreatDoorPQa
import Derived.Test.YtihafpcnhgapdaaGreatDoorPQb
import Derived.Test.YtihafpcnhgapdaaGreatDoorPQc
import Derived.Test.YtihafpcnhgapdaaGreatDoorPQh
import Derived.Test.YtihafpcnhgapdaaGreatDoorPQd
import Derived.Test.YtihafpcnhgapdaaGreatDoorPQe
import Derived.Test.YtihafpcnhgapdaaGreatDoorPQf
import Derived.Test.YtihafpcnhgapdaaGreatDoorPQg
import Derived.Test.YtihafpcnhgapdaaGreatDoorCards
set_option linter.unusedSimpArgs false
set_option linter.unusedVariables false
set_option maxRecDepth 1000000
set_option maxHeartbeats 8000000
namespace Go.Proofs.YtihafpcnhgapdaaGreatDoor
open Go Go.Sh Go.ChangeShapes Go.WideShapes Go.ChangeAt Go.RowKit
theorem andT {a b:Bool} (h1:a=true) (h2:b=true):(a&&b)=true:=by rw [h1,h2]; rfl
theorem replicaConfigs_closed:joinedFacts Tryz.prog 3 Tryz.f3 Rows.replicaConfigsSpec Rows.replicaConfigsRow=true:=(andT (andT (andT (andT (andT (andT (andT (andT (andT (andT (andT (andT (andT (andT (andT (andT (andT (andT (andT (andT (andT (andT (andT (andT (andT (andT (andT (andT (andT (andT (andT replicaConfigs_k1 replicaConfigs_k2) replicaConfigs_k3) replicaConfigs_k4) replicaConfigs_k5) replicaConfigs_k6) replicaConfigs_k7) replicaConfigs_k8) replicaConfigs_k9) replicaConfigs_k10) replicaConfigs_k11) replicaConfigs_k12) replicaConfigs_k13) replicaConfigs_k14) replicaConfigs_k15) replicaConfigs_k16) replicaConfigs_k17) replicaConfigs_k18) replicaConfigs_k19) replicaConfigs_k20) replicaConfigs_k21) replicaConfigs_k22) replicaConfigs_k23) replicaConfigs_k24) replicaConfigs_k25) replicaConfigs_k26) replicaConfigs_k27) replicaConfigs_k28) replicaConfigs_k29) replicaConfigs_k30) replicaConfigs_k31) replicaConfigs_k32)
theorem replicaConfigs_proved:Rows.ReplicaConfigsSaid:=
 OpenClaim.holds_of_wide 3 Tryz.f3 rfl rfl rfl rfl rfl rfl rfl ⟨rfl,rfl,rfl,rfl,rfl⟩ rfl rfl rfl rfl rfl replicaConfigs_named Tryz.func3 replicaConfigs_closed
  (of_decide_eq_true (by kernel_rfl)) replicaConfigs_wrap
  (fun os started H enc _=>replicaConfigs_lifted os started H enc)
theorem replicaConfigs_text:Rows.replicaConfigsRow.wfByText (OpenSpec.ofChange Rows.replicaConfigsSpec)=true:=by kernel_rfl
theorem replicaConfigs_main:Tryz.prog.mainIs=some (((true,"0ec3eae1b39fadadbee3e2f648150ac2a54360594ed9bba0d42dd804306904f1"):Bool×String).1,((true,"0ec3eae1b39fadadbee3e2f648150ac2a54360594ed9bba0d42dd804306904f1"):Bool×String).2.toList):=by kernel_rfl
theorem replicaConfigs_looks:true=Tryz.prog.looks []:=by kernel_rfl
theorem replicaConfigs_goes:false=Rows.replicaConfigsRow.goesBy Tryz.prog:=goesBy_prog _
theorem replicaConfigs_card:Rows.ReplicaConfigsCardSaid:=
 Claim7.holds_tied_plain_at .later [] [.data,.data,.data,.data,.data,.data,.data,.pinned,.data] true (true,"0ec3eae1b39fadadbee3e2f648150ac2a54360594ed9bba0d42dd804306904f1") true
  replicaConfigs_proved (fun _ h=>by cases h) replicaConfigs_text (fun _ h=>by cases h) replicaConfigs_row_tie rfl ⟨rfl,rfl⟩ replicaConfigs_main rfl
  (fun f fn hf hfn=>by
   obtain rfl:f=3:=Option.some.inj ((show Tryz.prog.funcNamed Tryz.f3.name=some 3 by kernel_rfl).symm.trans hf) |>.symm
   obtain rfl:fn=Tryz.f3:=(Option.some.inj (Tryz.func3.symm.trans hfn)).symm
   exact ⟨replicaConfigs_looks,fun j t ht=>by
    rw [Tryz.params3] at ht
    have hm:t∈([26]:List TypeId):=by simpa using Array.mem_of_getElem? ht
    have hall:(([26]:List TypeId).all fun u=>!Tryz.prog.wantsStandIn u)=true:=by kernel_rfl
    exact (show Tryz.prog.wantsStandIn t=false by simpa using List.all_eq_true.1 hall t hm)⟩)
  replicaConfigs_goes
end Go.Proofs.YtihafpcnhgapdaaGreatDoor
