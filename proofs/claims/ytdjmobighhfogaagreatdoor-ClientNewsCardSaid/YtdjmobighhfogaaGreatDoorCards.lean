/-
  DERIVED. GIVEN WITH THE SEED: THE CARDS: each row of YtdjmobighhfogaaGreatDoorRows.lean that lists a variable, with what it lists TIED to the program's text (the seventh form; the later family's looks); each row that meets fmt, with fmt's text TOLD by the authors' own Lean function (tested against real Go, not proved from fmt's source: count such statements apart). THE CARD IS WHAT COUNTS. Prove the row's statement (the work); the ties are given (YtdjmobighhfogaaGreatDoorTie.lean); close each card by the builder's one call (the guide's Derived/Test/ToyasCard.lean, 'card_holds'). Laid BY PROGRAM, IN A SANDBOX (cutbox-door.mjs). By AI agents, Wed Nov 11 2026. No macro, syntax, notation, axiom, sorry.
-/
import Derived.Test.YtdjmobighhfogaaGreatDoorRows
import GoSem.ClaimSeven
namespace Go.Proofs.YtdjmobighhfogaaGreatDoor
namespace Rows

/-- THE TIED CARD OF 'buttresslaw26.ClientNews'. -/
def clientNewsCard : Claim7 := { stood := { row := clientNewsRow, standIns := [], harness := (true, "0cdc14a4659b9ac09541e84a132e15fa210d19ae28cea106261c88ed526bc7c1"), looks := true }, kinds := [], alts := [], laidByText := true, laidKinds := [.data, .data, .data, .data, .data, .pinned], laidTests := true, laidLooks := .later }
def ClientNewsCardSaid : Prop := Claim7.holds Tryz.pinned (.plain (OpenSpec.ofChange clientNewsSpec)) clientNewsCard

/-- THE SECOND FORM's CARD OF 'buttresslaw26.ClientNews'. -/
def clientNewsUptoCard : Claim7 := { stood := { row := clientNewsUptoRow, standIns := [], harness := (true, "0cdc14a4659b9ac09541e84a132e15fa210d19ae28cea106261c88ed526bc7c1"), looks := true }, kinds := [], alts := [], laidByText := true, laidKinds := [.data, .data, .data, .data, .data, .pinned], laidTests := true, laidLooks := .later }
def ClientNewsUptoCardSaid : Prop := Claim7.holds Tryz.pinned (.plain (OpenSpec.upto clientNewsSpec)) clientNewsUptoCard
end Rows
end Go.Proofs.YtdjmobighhfogaaGreatDoor
