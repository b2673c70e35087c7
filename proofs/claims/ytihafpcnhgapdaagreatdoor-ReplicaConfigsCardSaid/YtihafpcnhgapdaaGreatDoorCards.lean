/-
  DERIVED. GIVEN WITH THE SEED: THE CARDS: each row of YtihafpcnhgapdaaGreatDoorRows.lean that lists a variable, with what it lists TIED to the program's text (the seventh form; the later family's looks); each row that meets fmt, with fmt's text TOLD by the authors' own Lean function (tested against real Go, not proved from fmt's source: count such statements apart). THE CARD IS WHAT COUNTS. Prove the row's statement (the work); the ties are given (YtihafpcnhgapdaaGreatDoorTie.lean); close each card by the builder's one call (the guide's Derived/Test/ToyasCard.lean, 'card_holds'). Laid BY PROGRAM, IN A SANDBOX (cutbox-door.mjs). By AI agents, Wed Nov 11 2026. No macro, syntax, notation, axiom, sorry.
-/
import Derived.Test.YtihafpcnhgapdaaGreatDoorRows
import GoSem.ClaimSeven
namespace Go.Proofs.YtihafpcnhgapdaaGreatDoor
namespace Rows

/-- THE TIED CARD OF 'buttresslaw25.ReplicaConfigs'. -/
def replicaConfigsCard : Claim7 := { stood := { row := replicaConfigsRow, standIns := [], harness := (true, "0ec3eae1b39fadadbee3e2f648150ac2a54360594ed9bba0d42dd804306904f1"), looks := true }, kinds := [], alts := [], laidByText := true, laidKinds := [.data, .data, .data, .data, .data, .data, .data, .pinned, .data], laidTests := true, laidLooks := .later }
def ReplicaConfigsCardSaid : Prop := Claim7.holds Tryz.pinned (.plain (OpenSpec.ofChange replicaConfigsSpec)) replicaConfigsCard

/-- THE SECOND FORM's CARD OF 'buttresslaw25.ReplicaConfigs'. -/
def replicaConfigsUptoCard : Claim7 := { stood := { row := replicaConfigsUptoRow, standIns := [], harness := (true, "0ec3eae1b39fadadbee3e2f648150ac2a54360594ed9bba0d42dd804306904f1"), looks := true }, kinds := [], alts := [], laidByText := true, laidKinds := [.data, .data, .data, .data, .data, .data, .data, .pinned, .data], laidTests := true, laidLooks := .later }
def ReplicaConfigsUptoCardSaid : Prop := Claim7.holds Tryz.pinned (.plain (OpenSpec.upto replicaConfigsSpec)) replicaConfigsUptoCard
end Rows
end Go.Proofs.YtihafpcnhgapdaaGreatDoor
