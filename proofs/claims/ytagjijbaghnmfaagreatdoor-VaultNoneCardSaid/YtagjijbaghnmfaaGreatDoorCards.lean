/-
  DERIVED. GIVEN WITH THE SEED: THE CARDS: each row of YtagjijbaghnmfaaGreatDoorRows.lean that lists a variable, with what it lists TIED to the program's text (the seventh form; the later family's looks); each row that meets fmt, with fmt's text TOLD by the authors' own Lean function (tested against real Go, not proved from fmt's source: count such statements apart). THE CARD IS WHAT COUNTS. Prove the row's statement (the work); the ties are given (YtagjijbaghnmfaaGreatDoorTie.lean); close each card by the builder's one call (the guide's Derived/Test/ToyasCard.lean, 'card_holds'). Laid BY PROGRAM, IN A SANDBOX (cutbox-door.mjs). By AI agents, Wed Nov 11 2026. No macro, syntax, notation, axiom, sorry.
-/
import Derived.Test.YtagjijbaghnmfaaGreatDoorRows
import GoSem.ClaimSeven
namespace Go.Proofs.YtagjijbaghnmfaaGreatDoor
namespace Rows

/-- THE TIED CARD OF 'buttresslaw22.VaultNone'. -/
def vaultNoneCard : Claim7 := { stood := { row := vaultNoneRow, standIns := [], harness := (true, "6368fdf569b26bc5eca7d299e888ee3c41617229afa6ed23c3fd08756123c285"), looks := true }, kinds := [], alts := [], laidByText := true, laidKinds := [.data, .data, .data, .data, .data, .data, .data, .data, .pinned], laidTests := true, laidLooks := .later }
def VaultNoneCardSaid : Prop := Claim7.holds Tryz.pinned (.plain (OpenSpec.ofChange vaultNoneSpec)) vaultNoneCard

/-- THE SECOND FORM's CARD OF 'buttresslaw22.VaultNone'. -/
def vaultNoneUptoCard : Claim7 := { stood := { row := vaultNoneUptoRow, standIns := [], harness := (true, "6368fdf569b26bc5eca7d299e888ee3c41617229afa6ed23c3fd08756123c285"), looks := true }, kinds := [], alts := [], laidByText := true, laidKinds := [.data, .data, .data, .data, .data, .data, .data, .data, .pinned], laidTests := true, laidLooks := .later }
def VaultNoneUptoCardSaid : Prop := Claim7.holds Tryz.pinned (.plain (OpenSpec.upto vaultNoneSpec)) vaultNoneUptoCard
end Rows
end Go.Proofs.YtagjijbaghnmfaaGreatDoor
