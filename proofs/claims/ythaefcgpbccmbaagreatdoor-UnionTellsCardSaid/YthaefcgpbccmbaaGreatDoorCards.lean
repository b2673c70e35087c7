/-
  DERIVED. GIVEN WITH THE SEED: THE CARDS: each row of YthaefcgpbccmbaaGreatDoorRows.lean that lists a variable, with what it lists TIED to the program's text (the seventh form; the later family's looks); each row that meets fmt, with fmt's text TOLD by the authors' own Lean function (tested against real Go, not proved from fmt's source: count such statements apart). THE CARD IS WHAT COUNTS. Prove the row's statement (the work); the ties are given (YthaefcgpbccmbaaGreatDoorTie.lean); close each card by the builder's one call (the guide's Derived/Test/ToyasCard.lean, 'card_holds'). Laid BY PROGRAM, IN A SANDBOX (cutbox-door.mjs). By AI agents, Wed Nov 11 2026. No macro, syntax, notation, axiom, sorry.
-/
import Derived.Test.YthaefcgpbccmbaaGreatDoorRows
import GoSem.ClaimSeven
namespace Go.Proofs.YthaefcgpbccmbaaGreatDoor
namespace Rows

/-- THE TIED CARD OF 'buttresslaw31.UnionTells'. -/
def unionTellsCard : Claim7 := { stood := { row := unionTellsRow, standIns := [], harness := (true, "4eb84264ab377918e0d8c9e53665800ae11e3af38f4a816413dc66f2727d98e9"), looks := true }, kinds := [], alts := [], laidByText := true, laidKinds := [.data, .data, .data, .data], laidTests := true, laidLooks := .later }
def UnionTellsCardSaid : Prop := Claim7.holds Tryz.pinned (.plain (OpenSpec.ofChange unionTellsSpec)) unionTellsCard

/-- THE TIED CARD OF 'buttresslaw31.UnionOrder'. -/
def unionOrderCard : Claim7 := { stood := { row := unionOrderRow, standIns := [], harness := (true, "4eb84264ab377918e0d8c9e53665800ae11e3af38f4a816413dc66f2727d98e9"), looks := true }, kinds := [], alts := [], laidByText := true, laidKinds := [.data, .data, .data, .data], laidTests := true, laidLooks := .later }
def UnionOrderCardSaid : Prop := Claim7.holds Tryz.pinned (.plain (OpenSpec.ofChange unionOrderSpec)) unionOrderCard

/-- THE TIED CARD OF 'buttresslaw31.UnionSteps'. -/
def unionStepsCard : Claim7 := { stood := { row := unionStepsRow, standIns := [], harness := (true, "4eb84264ab377918e0d8c9e53665800ae11e3af38f4a816413dc66f2727d98e9"), looks := true }, kinds := [], alts := [], laidByText := true, laidKinds := [.data, .data, .data, .data], laidTests := true, laidLooks := .later }
def UnionStepsCardSaid : Prop := Claim7.holds Tryz.pinned (.plain (OpenSpec.ofChange unionStepsSpec)) unionStepsCard

/-- THE TIED CARD OF 'buttresslaw31.UnionShelf'. -/
def unionShelfCard : Claim7 := { stood := { row := unionShelfRow, standIns := [], harness := (true, "4eb84264ab377918e0d8c9e53665800ae11e3af38f4a816413dc66f2727d98e9"), looks := true }, kinds := [], alts := [], laidByText := true, laidKinds := [.data, .data, .data, .data], laidTests := true, laidLooks := .later }
def UnionShelfCardSaid : Prop := Claim7.holds Tryz.pinned (.plain (OpenSpec.ofChange unionShelfSpec)) unionShelfCard

/-- THE SECOND FORM's CARD OF 'buttresslaw31.UnionTells'. -/
def unionTellsUptoCard : Claim7 := { stood := { row := unionTellsUptoRow, standIns := [], harness := (true, "4eb84264ab377918e0d8c9e53665800ae11e3af38f4a816413dc66f2727d98e9"), looks := true }, kinds := [], alts := [], laidByText := true, laidKinds := [.data, .data, .data, .data], laidTests := true, laidLooks := .later }
def UnionTellsUptoCardSaid : Prop := Claim7.holds Tryz.pinned (.plain (OpenSpec.upto unionTellsSpec)) unionTellsUptoCard

/-- THE SECOND FORM's CARD OF 'buttresslaw31.UnionOrder'. -/
def unionOrderUptoCard : Claim7 := { stood := { row := unionOrderUptoRow, standIns := [], harness := (true, "4eb84264ab377918e0d8c9e53665800ae11e3af38f4a816413dc66f2727d98e9"), looks := true }, kinds := [], alts := [], laidByText := true, laidKinds := [.data, .data, .data, .data], laidTests := true, laidLooks := .later }
def UnionOrderUptoCardSaid : Prop := Claim7.holds Tryz.pinned (.plain (OpenSpec.upto unionOrderSpec)) unionOrderUptoCard

/-- THE SECOND FORM's CARD OF 'buttresslaw31.UnionSteps'. -/
def unionStepsUptoCard : Claim7 := { stood := { row := unionStepsUptoRow, standIns := [], harness := (true, "4eb84264ab377918e0d8c9e53665800ae11e3af38f4a816413dc66f2727d98e9"), looks := true }, kinds := [], alts := [], laidByText := true, laidKinds := [.data, .data, .data, .data], laidTests := true, laidLooks := .later }
def UnionStepsUptoCardSaid : Prop := Claim7.holds Tryz.pinned (.plain (OpenSpec.upto unionStepsSpec)) unionStepsUptoCard

/-- THE SECOND FORM's CARD OF 'buttresslaw31.UnionShelf'. -/
def unionShelfUptoCard : Claim7 := { stood := { row := unionShelfUptoRow, standIns := [], harness := (true, "4eb84264ab377918e0d8c9e53665800ae11e3af38f4a816413dc66f2727d98e9"), looks := true }, kinds := [], alts := [], laidByText := true, laidKinds := [.data, .data, .data, .data], laidTests := true, laidLooks := .later }
def UnionShelfUptoCardSaid : Prop := Claim7.holds Tryz.pinned (.plain (OpenSpec.upto unionShelfSpec)) unionShelfUptoCard
end Rows
end Go.Proofs.YthaefcgpbccmbaaGreatDoor
