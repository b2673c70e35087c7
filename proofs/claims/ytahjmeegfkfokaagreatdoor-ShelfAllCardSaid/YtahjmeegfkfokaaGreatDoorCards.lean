/-
  DERIVED. GIVEN WITH THE SEED: THE CARDS: each row of YtahjmeegfkfokaaGreatDoorRows.lean that lists a variable, with what it lists TIED to the program's text (the seventh form; the later family's looks); each row that meets fmt, with fmt's text TOLD by the authors' own Lean function (tested against real Go, not proved from fmt's source: count such statements apart). THE CARD IS WHAT COUNTS. Prove the row's statement (the work); the ties are given (YtahjmeegfkfokaaGreatDoorTie.lean); close each card by the builder's one call (the guide's Derived/Test/ToyasCard.lean, 'card_holds'). Laid BY PROGRAM, IN A SANDBOX (cutbox-door.mjs). By AI agents, Wed Nov 11 2026. No macro, syntax, notation, axiom, sorry.
-/
import Derived.Test.YtahjmeegfkfokaaGreatDoorRows
import GoSem.ClaimSeven
namespace Go.Proofs.YtahjmeegfkfokaaGreatDoor
namespace Rows

/-- THE TIED CARD OF 'buttresslaw21.ShelfSets'. -/
def shelfSetsCard : Claim7 := { stood := { row := shelfSetsRow, standIns := [], harness := (true, "46f9a049a33ef8b4da37be91ba602dc28c8f18a9d76b5441fbdaa52b9d077cd2"), looks := true }, kinds := [], alts := [], laidByText := true, laidKinds := [.data, .data, .data, .data], laidTests := true, laidLooks := .later }
def ShelfSetsCardSaid : Prop := Claim7.holds Tryz.pinned (.plain (OpenSpec.ofChange shelfSetsSpec)) shelfSetsCard

/-- THE TIED CARD OF 'buttresslaw21.ShelfOrder'. -/
def shelfOrderCard : Claim7 := { stood := { row := shelfOrderRow, standIns := [], harness := (true, "46f9a049a33ef8b4da37be91ba602dc28c8f18a9d76b5441fbdaa52b9d077cd2"), looks := true }, kinds := [], alts := [], laidByText := true, laidKinds := [.data, .data, .data, .data], laidTests := true, laidLooks := .later }
def ShelfOrderCardSaid : Prop := Claim7.holds Tryz.pinned (.plain (OpenSpec.ofChange shelfOrderSpec)) shelfOrderCard

/-- THE TIED CARD OF 'buttresslaw21.ShelfAll'. -/
def shelfAllCard : Claim7 := { stood := { row := shelfAllRow, standIns := [], harness := (true, "46f9a049a33ef8b4da37be91ba602dc28c8f18a9d76b5441fbdaa52b9d077cd2"), looks := true }, kinds := [], alts := [], laidByText := true, laidKinds := [.data, .data, .data, .data], laidTests := true, laidLooks := .later }
def ShelfAllCardSaid : Prop := Claim7.holds Tryz.pinned (.plain (OpenSpec.ofChange shelfAllSpec)) shelfAllCard

/-- THE TIED CARD OF 'buttresslaw21.ShelfNone'. -/
def shelfNoneCard : Claim7 := { stood := { row := shelfNoneRow, standIns := [], harness := (true, "46f9a049a33ef8b4da37be91ba602dc28c8f18a9d76b5441fbdaa52b9d077cd2"), looks := true }, kinds := [], alts := [], laidByText := true, laidKinds := [.data, .data, .data, .data], laidTests := true, laidLooks := .later }
def ShelfNoneCardSaid : Prop := Claim7.holds Tryz.pinned (.plain (OpenSpec.ofChange shelfNoneSpec)) shelfNoneCard

/-- THE SECOND FORM's CARD OF 'buttresslaw21.ShelfSets'. -/
def shelfSetsUptoCard : Claim7 := { stood := { row := shelfSetsUptoRow, standIns := [], harness := (true, "46f9a049a33ef8b4da37be91ba602dc28c8f18a9d76b5441fbdaa52b9d077cd2"), looks := true }, kinds := [], alts := [], laidByText := true, laidKinds := [.data, .data, .data, .data], laidTests := true, laidLooks := .later }
def ShelfSetsUptoCardSaid : Prop := Claim7.holds Tryz.pinned (.plain (OpenSpec.upto shelfSetsSpec)) shelfSetsUptoCard

/-- THE SECOND FORM's CARD OF 'buttresslaw21.ShelfOrder'. -/
def shelfOrderUptoCard : Claim7 := { stood := { row := shelfOrderUptoRow, standIns := [], harness := (true, "46f9a049a33ef8b4da37be91ba602dc28c8f18a9d76b5441fbdaa52b9d077cd2"), looks := true }, kinds := [], alts := [], laidByText := true, laidKinds := [.data, .data, .data, .data], laidTests := true, laidLooks := .later }
def ShelfOrderUptoCardSaid : Prop := Claim7.holds Tryz.pinned (.plain (OpenSpec.upto shelfOrderSpec)) shelfOrderUptoCard

/-- THE SECOND FORM's CARD OF 'buttresslaw21.ShelfAll'. -/
def shelfAllUptoCard : Claim7 := { stood := { row := shelfAllUptoRow, standIns := [], harness := (true, "46f9a049a33ef8b4da37be91ba602dc28c8f18a9d76b5441fbdaa52b9d077cd2"), looks := true }, kinds := [], alts := [], laidByText := true, laidKinds := [.data, .data, .data, .data], laidTests := true, laidLooks := .later }
def ShelfAllUptoCardSaid : Prop := Claim7.holds Tryz.pinned (.plain (OpenSpec.upto shelfAllSpec)) shelfAllUptoCard

/-- THE SECOND FORM's CARD OF 'buttresslaw21.ShelfNone'. -/
def shelfNoneUptoCard : Claim7 := { stood := { row := shelfNoneUptoRow, standIns := [], harness := (true, "46f9a049a33ef8b4da37be91ba602dc28c8f18a9d76b5441fbdaa52b9d077cd2"), looks := true }, kinds := [], alts := [], laidByText := true, laidKinds := [.data, .data, .data, .data], laidTests := true, laidLooks := .later }
def ShelfNoneUptoCardSaid : Prop := Claim7.holds Tryz.pinned (.plain (OpenSpec.upto shelfNoneSpec)) shelfNoneUptoCard
end Rows
end Go.Proofs.YtahjmeegfkfokaaGreatDoor
