/-
  DERIVED. GIVEN WITH THE SEED: THE CARDS: each row of YtmgcoepbccgjfaaGreatDoorRows.lean that lists a variable, with what it lists TIED to the program's text (the seventh form; the later family's looks); each row that meets fmt, with fmt's text TOLD by the authors' own Lean function (tested against real Go, not proved from fmt's source: count such statements apart). THE CARD IS WHAT COUNTS. Prove the row's statement (the work); the ties are given (YtmgcoepbccgjfaaGreatDoorTie.lean); close each card by the builder's one call (the guide's Derived/Test/ToyasCard.lean, 'card_holds'). Laid BY PROGRAM, IN A SANDBOX (cutbox-door.mjs). By AI agents, Wed Nov 11 2026. No macro, syntax, notation, axiom, sorry.
-/
import Derived.Test.YtmgcoepbccgjfaaGreatDoorRows
import GoSem.ClaimSeven
namespace Go.Proofs.YtmgcoepbccgjfaaGreatDoor
namespace Rows

/-- THE TIED CARD OF 'buttresslaw30.ClusterNil'. -/
def clusterNilCard : Claim7 := { stood := { row := clusterNilRow, standIns := [], harness := (true, "f7fd57ec59fcb42a7d6e51012d31586558b3cb35571c6f00c9f154db9a8ce4e5"), looks := true }, kinds := [], alts := [], laidByText := true, laidKinds := [.data, .data, .data, .data, .data, .data, .data, .pinned, .data], laidTests := true, laidLooks := .later }
def ClusterNilCardSaid : Prop := Claim7.holds Tryz.pinned (.plain (OpenSpec.ofChange clusterNilSpec)) clusterNilCard

/-- THE SECOND FORM's CARD OF 'buttresslaw30.ClusterNil'. -/
def clusterNilUptoCard : Claim7 := { stood := { row := clusterNilUptoRow, standIns := [], harness := (true, "f7fd57ec59fcb42a7d6e51012d31586558b3cb35571c6f00c9f154db9a8ce4e5"), looks := true }, kinds := [], alts := [], laidByText := true, laidKinds := [.data, .data, .data, .data, .data, .data, .data, .pinned, .data], laidTests := true, laidLooks := .later }
def ClusterNilUptoCardSaid : Prop := Claim7.holds Tryz.pinned (.plain (OpenSpec.upto clusterNilSpec)) clusterNilUptoCard
end Rows
end Go.Proofs.YtmgcoepbccgjfaaGreatDoor
