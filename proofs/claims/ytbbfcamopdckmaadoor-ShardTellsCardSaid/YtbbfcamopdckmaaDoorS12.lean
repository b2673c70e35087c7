/- The statements closed: what the walks say, as the row says it. -/
import Derived.Test.YtbbfcamopdckmaaDoorS11
import Derived.WalkKit
import Derived.ProofKit
import Derived.OpenShut
import Derived.ShutString
import Derived.ChangeOld
import Derived.Below
import Derived.LaidMore
import Derived.Stop.Joined
import Derived.SevenTiedAt
set_option linter.unusedSimpArgs false
set_option linter.unusedVariables false
namespace Go.Proofs.YtbbfcamopdckmaaDoor
open Go Go.Sh Go.ChangeShapes Go.WideShapes Go.ChangeAt Go.RowKit

theorem own : ownKnob Tryd.prog.godebug = none := by kernel_rfl
theorem laidOut : laidOutB Tryd.prog = true := by kernel_rfl
theorem below_of {w w' : World} (h : Mod NoB w w') : Below w.heap.size w w' := ⟨h.os, h.tape, h.output, h.size, fun k hk => h.block k hk (fun h => h)⟩
theorem say_of {k : FuncId} {args : Array Value} {w : World} (h : Calls Tryd.prog k args w (Ret fun v w' => v = .bool true ∧ Mod NoB w w')) : Calls Tryd.prog k args w fun e w' => e = .returned (.bool true) ∧ Below w.heap.size w w' :=
  h.mono fun e w' he => by
    cases e with
    | returned v => exact ⟨congrArg _ he.1, below_of he.2⟩
    | panicked c => exact he.elim
    | outgrown => exact he.elim
def laidG : List (String × DataW Unit) := [("buttress/sha.begin", Rows.laid_buttress_sha_begin), ("buttress/sha.rest", Rows.laid_buttress_sha_rest)]
set_option maxRecDepth 100000 in
theorem door_met (os : Os) (args : Array Value) : laidMetH Tryd.prog laidG ((World.doorLaid Tryd.prog 19 os).forCall (fun _ _ => 0) ⟨#[], args, []⟩).memory :=
  laidMetH_of_parts3 (fuel := 8) (laidMet_of_run' 8 (by kernel_rfl) (by kernel_rfl)) (by kernel_rfl) (by kernel_rfl)
section
variable {H : Type} {enc : TypeId × Value → H} {W : World}
theorem bytes8 : Tryd.prog.bytesOf 5 = 1 := by kernel_rfl
theorem len_bound {ts : List TypeId} {ds : List (DataW H)} (h : (DataW.weightsEach Tryd.prog ts ds).all (· ≤ reachBytes) = true) {j : Nat} (ht : ts[j]? = some 26) {a : Option Addr} {len cap : Nat} {l : List UInt8} {d : DataW H}
    (hd : ds[j]? = some d) (hr : SlRd W ⟨a, len, cap⟩ 1 (bys l)) (hc : (d = .nil ∧ cap = 0) ∨ ∃ es ss, d = .slice es ss ∧ es.length + ss.length = cap) : len ≤ 1000000000000000 := by
  have hl : len ≤ cap := len_le hr
  rcases hc with ⟨_, hc⟩ | ⟨es, ss, rfl, hc⟩
  · omega
  · have := sized_slice h ht hd u26
    rw [bytes8, hc] at this
    have := reachBytes_lt
    omega
end
end Go.Proofs.YtbbfcamopdckmaaDoor
