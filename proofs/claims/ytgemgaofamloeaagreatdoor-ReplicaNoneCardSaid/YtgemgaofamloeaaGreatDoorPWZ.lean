/- ReplicaNone, closing: CRe -/
import Derived.Test.YtgemgaofamloeaaGreatDoorPW20
import Derived.Test.YtgemgaofamloeaaGreatDoorPWa
import Derived.Test.YtgemgaofamloeaaGreatDoorPWb
import Derived.Test.YtgemgaofamloeaaGreatDoorPWc
import Derived.Test.YtgemgaofamloeaaGreatDoorPWd
import Derived.Test.YtgemgaofamloeaaGreatDoorPWe
import Derived.Test.YtgemgaofamloeaaGreatDoorPWf
import Derived.Test.YtgemgaofamloeaaGreatDoorPWg
import Derived.Test.YtgemgaofamloeaaGreatDoorCards
set_option linter.unusedSimpArgs false
set_option linter.unusedVariables false
set_option maxRecDepth 1000000
set_option maxHeartbeats 8000000
namespace Go.Proofs.YtgemgaofamloeaaGreatDoor
open Go Go.Sh Go.ChangeShapes Go.WideShapes Go.ChangeAt Go.RowKit
theorem andT {a b : Bool} (h1 : a = true) (h2 : b = true) : (a && b) = true := by rw [h1, h2]; rfl
theorem replicaNone_closed : joinedFacts Tryz.prog 3 Tryz.f3 Rows.replicaNoneSpec Rows.replicaNoneRow = true := (andT (andT (andT (andT (andT (andT (andT (andT (andT (andT (andT (andT (andT (andT (andT (andT (andT (andT (andT (andT (andT (andT (andT (andT (andT (andT (andT (andT (andT (andT (andT replicaNone_k1 replicaNone_k2) replicaNone_k3) replicaNone_k4) replicaNone_k5) replicaNone_k6) replicaNone_k7) replicaNone_k8) replicaNone_k9) replicaNone_k10) replicaNone_k11) replicaNone_k12) replicaNone_k13) replicaNone_k14) replicaNone_k15) replicaNone_k16) replicaNone_k17) replicaNone_k18) replicaNone_k19) replicaNone_k20) replicaNone_k21) replicaNone_k22) replicaNone_k23) replicaNone_k24) replicaNone_k25) replicaNone_k26) replicaNone_k27) replicaNone_k28) replicaNone_k29) replicaNone_k30) replicaNone_k31) replicaNone_k32)
theorem replicaNone_proved : Rows.ReplicaNoneSaid :=
  OpenClaim.holds_of_wide 3 Tryz.f3 rfl rfl rfl rfl rfl rfl rfl ⟨rfl, rfl, rfl, rfl, rfl⟩ rfl rfl rfl rfl rfl replicaNone_named Tryz.func3 replicaNone_closed
    (of_decide_eq_true (by kernel_rfl)) replicaNone_wrap
    (fun os started H enc _ => replicaNone_lifted os started H enc)
theorem replicaNone_text : Rows.replicaNoneRow.wfByText (OpenSpec.ofChange Rows.replicaNoneSpec) = true := by kernel_rfl
theorem replicaNone_main : Tryz.prog.mainIs = some (((true, "a38e6f73f9a8aef414ed82802eb0aea647549d9bc2b137b9b262331ae4692364") : Bool × String).1, ((true, "a38e6f73f9a8aef414ed82802eb0aea647549d9bc2b137b9b262331ae4692364") : Bool × String).2.toList) := by kernel_rfl
theorem replicaNone_looks : true = Tryz.prog.looks [] := by kernel_rfl
theorem replicaNone_goes : false = Rows.replicaNoneRow.goesBy Tryz.prog := goesBy_prog _
theorem replicaNone_card : Rows.ReplicaNoneCardSaid :=
  Claim7.holds_tied_plain_at .later [] [.data, .data, .data, .data, .data, .data, .data, .pinned, .data] true (true, "a38e6f73f9a8aef414ed82802eb0aea647549d9bc2b137b9b262331ae4692364") true
    replicaNone_proved (fun _ h => by cases h) replicaNone_text (fun _ h => by cases h) replicaNone_row_tie rfl ⟨rfl, rfl⟩ replicaNone_main rfl
    (fun f fn hf hfn => by
      obtain rfl : f = 3 := Option.some.inj ((show Tryz.prog.funcNamed Tryz.f3.name = some 3 by kernel_rfl).symm.trans hf) |>.symm
      obtain rfl : fn = Tryz.f3 := (Option.some.inj (Tryz.func3.symm.trans hfn)).symm
      exact ⟨replicaNone_looks, fun j t ht => by
        rw [Tryz.params3] at ht
        have hm : t ∈ ([24, 3, 3, 9] : List TypeId) := by simpa using Array.mem_of_getElem? ht
        have hall : (([24, 3, 3, 9] : List TypeId).all fun u => !Tryz.prog.wantsStandIn u) = true := by kernel_rfl
        exact (show Tryz.prog.wantsStandIn t = false by simpa using List.all_eq_true.1 hall t hm)⟩)
    replicaNone_goes
end Go.Proofs.YtgemgaofamloeaaGreatDoor
