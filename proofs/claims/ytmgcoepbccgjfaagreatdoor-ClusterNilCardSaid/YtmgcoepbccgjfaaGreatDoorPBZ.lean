/- ClusterNil,closing: CCe -/
import Derived.Test.YtmgcoepbccgjfaaGreatDoorPB32
import Derived.Test.YtmgcoepbccgjfaaGreatDoorPBa
import Derived.Test.YtmgcoepbccgjfaaGreatDoorPBb
import Derived.Test.YtmgcoepbccgjfaaGreatDoorPBc
import Derived.Test.YtmgcoepbccgjfaaGreatDoorPBh
import Derived.Test.YtmgcoepbccgjfaaGreatDoorPBd
import Derived.Test.YtmgcoepbccgjfaaGreatDoorPBe
import Derived.Test.YtmgcoepbccgjfaaGreatDoorPBf
import Derived.Test.YtmgcoepbccgjfaaGreatDoorPBg
import Derived.Test.YtmgcoepbccgjfaaGreatDoorCards
set_option linter.unusedSimpArgs false
set_option linter.unusedVariables false
set_option maxRecDepth 1000000
set_option maxHeartbeats 8000000
namespace Go.Proofs.YtmgcoepbccgjfaaGreatDoor
open Go Go.Sh Go.ChangeShapes Go.WideShapes Go.ChangeAt Go.RowKit
theorem andT {a b:Bool} (h1:a=true) (h2:b=true):(a&&b)=true:=by rw [h1,h2]; rfl
theorem clusterNil_closed:joinedFacts Tryz.prog 3 Tryz.f3 Rows.clusterNilSpec Rows.clusterNilRow=true:=(andT (andT (andT (andT (andT (andT (andT (andT (andT (andT (andT (andT (andT (andT (andT (andT (andT (andT (andT (andT (andT (andT (andT (andT (andT (andT (andT (andT (andT (andT (andT clusterNil_k1 clusterNil_k2) clusterNil_k3) clusterNil_k4) clusterNil_k5) clusterNil_k6) clusterNil_k7) clusterNil_k8) clusterNil_k9) clusterNil_k10) clusterNil_k11) clusterNil_k12) clusterNil_k13) clusterNil_k14) clusterNil_k15) clusterNil_k16) clusterNil_k17) clusterNil_k18) clusterNil_k19) clusterNil_k20) clusterNil_k21) clusterNil_k22) clusterNil_k23) clusterNil_k24) clusterNil_k25) clusterNil_k26) clusterNil_k27) clusterNil_k28) clusterNil_k29) clusterNil_k30) clusterNil_k31) clusterNil_k32)
theorem clusterNil_proved:Rows.ClusterNilSaid:=
 OpenClaim.holds_of_wide 3 Tryz.f3 rfl rfl rfl rfl rfl rfl rfl ⟨rfl,rfl,rfl,rfl,rfl⟩ rfl rfl rfl rfl rfl clusterNil_named Tryz.func3 clusterNil_closed
  (of_decide_eq_true (by kernel_rfl)) clusterNil_wrap
  (λos started H enc _=>clusterNil_lifted os started H enc)
theorem clusterNil_text:Rows.clusterNilRow.wfByText (OpenSpec.ofChange Rows.clusterNilSpec)=true:=by kernel_rfl
theorem clusterNil_main:Tryz.prog.mainIs=some (((true,"f7fd57ec59fcb42a7d6e51012d31586558b3cb35571c6f00c9f154db9a8ce4e5"):Bool×String).1,((true,"f7fd57ec59fcb42a7d6e51012d31586558b3cb35571c6f00c9f154db9a8ce4e5"):Bool×String).2.toList):=by kernel_rfl
theorem clusterNil_looks:true=Tryz.prog.looks []:=by kernel_rfl
theorem clusterNil_goes:false=Rows.clusterNilRow.goesBy Tryz.prog:=goesBy_prog _
theorem clusterNil_card:Rows.ClusterNilCardSaid:=
 Claim7.holds_tied_plain_at .later [] [.data,.data,.data,.data,.data,.data,.data,.pinned,.data] true (true,"f7fd57ec59fcb42a7d6e51012d31586558b3cb35571c6f00c9f154db9a8ce4e5") true
  clusterNil_proved (λ_ h=>by cases h) clusterNil_text (λ_ h=>by cases h) clusterNil_row_tie rfl ⟨rfl,rfl⟩ clusterNil_main rfl
  (λf fn hf hfn=>by
   obtain rfl:f=3:=Option.some.inj ((show Tryz.prog.funcNamed Tryz.f3.name=some 3 by kernel_rfl).symm.trans hf) |>.symm
   obtain rfl:fn=Tryz.f3:=(Option.some.inj (Tryz.func3.symm.trans hfn)).symm
   exact ⟨clusterNil_looks,λj t ht=>by
    rw [Tryz.params3] at ht
    have hm:t∈([25]:List TypeId):=by simpa using Array.mem_of_getElem? ht
    have hall:(([25]:List TypeId).all λu=>!Tryz.prog.wantsStandIn u)=true:=by kernel_rfl
    exact (show Tryz.prog.wantsStandIn t=false by simpa using List.all_eq_true.1 hall t hm)⟩)
  clusterNil_goes
end Go.Proofs.YtmgcoepbccgjfaaGreatDoor
