/-
  DERIVED. GIVEN WITH THE SEED: THE CARDS: each row of YtbbfcamopdckmaaDoorRows.lean that lists a variable, with what it lists TIED to the program's text (the seventh form; the later family's looks); each row that meets fmt, with fmt's text TOLD by the authors' own Lean function (tested against real Go, not proved from fmt's source: count such statements apart). THE CARD IS WHAT COUNTS. Prove the row's statement (the work); the ties are given (YtbbfcamopdckmaaDoorTie.lean); close each card by the builder's one call (the guide's Derived/Test/ToyasCard.lean, 'card_holds'). Laid BY PROGRAM, IN A SANDBOX (cutbox-door.mjs). By AI agents, Wed Nov 11 2026. No macro, syntax, notation, axiom, sorry.
-/
import Derived.Test.YtbbfcamopdckmaaDoorRows
import GoSem.ClaimSeven
namespace Go.Proofs.YtbbfcamopdckmaaDoor
namespace Rows

/-- THE TIED CARD OF 'buttresslaw01.ShaSums'. -/
def shaSumsCard : Claim7 := { stood := { row := shaSumsRow, standIns := [], harness := (true, "5f6dabe5dd4987e612635012bcac86b3aeff4fbda8dbe536e03ab673052ca4c7"), looks := false }, kinds := [], alts := [], laidByText := true, laidKinds := [.data, .data], laidTests := true, laidLooks := .later }
def ShaSumsCardSaid : Prop := Claim7.holds Tryd.pinned (.plain (OpenSpec.ofChange shaSumsSpec)) shaSumsCard

/-- THE TIED CARD OF 'buttresslaw01.ShaWrites'. -/
def shaWritesCard : Claim7 := { stood := { row := shaWritesRow, standIns := [], harness := (true, "5f6dabe5dd4987e612635012bcac86b3aeff4fbda8dbe536e03ab673052ca4c7"), looks := false }, kinds := [], alts := [], laidByText := true, laidKinds := [.data, .data], laidTests := true, laidLooks := .later }
def ShaWritesCardSaid : Prop := Claim7.holds Tryd.pinned (.plain (OpenSpec.ofChange shaWritesSpec)) shaWritesCard

/-- THE TIED CARD OF 'buttresslaw01.ShaLengths'. -/
def shaLengthsCard : Claim7 := { stood := { row := shaLengthsRow, standIns := [], harness := (true, "5f6dabe5dd4987e612635012bcac86b3aeff4fbda8dbe536e03ab673052ca4c7"), looks := false }, kinds := [], alts := [], laidByText := true, laidKinds := [.data, .data], laidTests := true, laidLooks := .later }
def ShaLengthsCardSaid : Prop := Claim7.holds Tryd.pinned (.plain (OpenSpec.ofChange shaLengthsSpec)) shaLengthsCard

/-- THE TIED CARD OF 'buttresslaw01.ShaRoots'. -/
def shaRootsCard : Claim7 := { stood := { row := shaRootsRow, standIns := [], harness := (true, "5f6dabe5dd4987e612635012bcac86b3aeff4fbda8dbe536e03ab673052ca4c7"), looks := false }, kinds := [], alts := [], laidByText := true, laidKinds := [.data, .data], laidTests := true, laidLooks := .later }
def ShaRootsCardSaid : Prop := Claim7.holds Tryd.pinned (.plain (OpenSpec.ofChange shaRootsSpec)) shaRootsCard

/-- THE TIED CARD OF 'buttresslaw01.ShaNone'. -/
def shaNoneCard : Claim7 := { stood := { row := shaNoneRow, standIns := [], harness := (true, "5f6dabe5dd4987e612635012bcac86b3aeff4fbda8dbe536e03ab673052ca4c7"), looks := false }, kinds := [], alts := [], laidByText := true, laidKinds := [.data, .data], laidTests := true, laidLooks := .later }
def ShaNoneCardSaid : Prop := Claim7.holds Tryd.pinned (.plain (OpenSpec.ofChange shaNoneSpec)) shaNoneCard

/-- THE TIED CARD OF 'buttresslaw01.ShaParts'. -/
def shaPartsCard : Claim7 := { stood := { row := shaPartsRow, standIns := [], harness := (true, "5f6dabe5dd4987e612635012bcac86b3aeff4fbda8dbe536e03ab673052ca4c7"), looks := false }, kinds := [], alts := [], laidByText := true, laidKinds := [.data, .data], laidTests := true, laidLooks := .later }
def ShaPartsCardSaid : Prop := Claim7.holds Tryd.pinned (.plain (OpenSpec.ofChange shaPartsSpec)) shaPartsCard

/-- THE TIED CARD OF 'buttresslaw01.ShaApart'. -/
def shaApartCard : Claim7 := { stood := { row := shaApartRow, standIns := [], harness := (true, "5f6dabe5dd4987e612635012bcac86b3aeff4fbda8dbe536e03ab673052ca4c7"), looks := false }, kinds := [], alts := [], laidByText := true, laidKinds := [.data, .data], laidTests := true, laidLooks := .later }
def ShaApartCardSaid : Prop := Claim7.holds Tryd.pinned (.plain (OpenSpec.ofChange shaApartSpec)) shaApartCard

/-- THE TIED CARD OF 'buttresslaw11.ShardTells'. -/
def shardTellsCard : Claim7 := { stood := { row := shardTellsRow, standIns := [], harness := (true, "5f6dabe5dd4987e612635012bcac86b3aeff4fbda8dbe536e03ab673052ca4c7"), looks := false }, kinds := [], alts := [], laidByText := true, laidKinds := [.data, .data], laidTests := true, laidLooks := .later }
def ShardTellsCardSaid : Prop := Claim7.holds Tryd.pinned (.plain (OpenSpec.ofChange shardTellsSpec)) shardTellsCard

/-- THE TIED CARD OF 'buttresslaw11.ShardNumbers'. -/
def shardNumbersCard : Claim7 := { stood := { row := shardNumbersRow, standIns := [], harness := (true, "5f6dabe5dd4987e612635012bcac86b3aeff4fbda8dbe536e03ab673052ca4c7"), looks := false }, kinds := [], alts := [], laidByText := true, laidKinds := [.data, .data], laidTests := true, laidLooks := .later }
def ShardNumbersCardSaid : Prop := Claim7.holds Tryd.pinned (.plain (OpenSpec.ofChange shardNumbersSpec)) shardNumbersCard

/-- THE TIED CARD OF 'buttresslaw11.ShardWhole'. -/
def shardWholeCard : Claim7 := { stood := { row := shardWholeRow, standIns := [], harness := (true, "5f6dabe5dd4987e612635012bcac86b3aeff4fbda8dbe536e03ab673052ca4c7"), looks := false }, kinds := [], alts := [], laidByText := true, laidKinds := [.data, .data], laidTests := true, laidLooks := .later }
def ShardWholeCardSaid : Prop := Claim7.holds Tryd.pinned (.plain (OpenSpec.ofChange shardWholeSpec)) shardWholeCard

/-- THE SECOND FORM's CARD OF 'buttresslaw01.ShaSums'. -/
def shaSumsUptoCard : Claim7 := { stood := { row := shaSumsUptoRow, standIns := [], harness := (true, "5f6dabe5dd4987e612635012bcac86b3aeff4fbda8dbe536e03ab673052ca4c7"), looks := false }, kinds := [], alts := [], laidByText := true, laidKinds := [.data, .data], laidTests := true, laidLooks := .later }
def ShaSumsUptoCardSaid : Prop := Claim7.holds Tryd.pinned (.plain (OpenSpec.upto shaSumsSpec)) shaSumsUptoCard

/-- THE SECOND FORM's CARD OF 'buttresslaw01.ShaWrites'. -/
def shaWritesUptoCard : Claim7 := { stood := { row := shaWritesUptoRow, standIns := [], harness := (true, "5f6dabe5dd4987e612635012bcac86b3aeff4fbda8dbe536e03ab673052ca4c7"), looks := false }, kinds := [], alts := [], laidByText := true, laidKinds := [.data, .data], laidTests := true, laidLooks := .later }
def ShaWritesUptoCardSaid : Prop := Claim7.holds Tryd.pinned (.plain (OpenSpec.upto shaWritesSpec)) shaWritesUptoCard

/-- THE SECOND FORM's CARD OF 'buttresslaw01.ShaLengths'. -/
def shaLengthsUptoCard : Claim7 := { stood := { row := shaLengthsUptoRow, standIns := [], harness := (true, "5f6dabe5dd4987e612635012bcac86b3aeff4fbda8dbe536e03ab673052ca4c7"), looks := false }, kinds := [], alts := [], laidByText := true, laidKinds := [.data, .data], laidTests := true, laidLooks := .later }
def ShaLengthsUptoCardSaid : Prop := Claim7.holds Tryd.pinned (.plain (OpenSpec.upto shaLengthsSpec)) shaLengthsUptoCard

/-- THE SECOND FORM's CARD OF 'buttresslaw01.ShaRoots'. -/
def shaRootsUptoCard : Claim7 := { stood := { row := shaRootsUptoRow, standIns := [], harness := (true, "5f6dabe5dd4987e612635012bcac86b3aeff4fbda8dbe536e03ab673052ca4c7"), looks := false }, kinds := [], alts := [], laidByText := true, laidKinds := [.data, .data], laidTests := true, laidLooks := .later }
def ShaRootsUptoCardSaid : Prop := Claim7.holds Tryd.pinned (.plain (OpenSpec.upto shaRootsSpec)) shaRootsUptoCard

/-- THE SECOND FORM's CARD OF 'buttresslaw01.ShaNone'. -/
def shaNoneUptoCard : Claim7 := { stood := { row := shaNoneUptoRow, standIns := [], harness := (true, "5f6dabe5dd4987e612635012bcac86b3aeff4fbda8dbe536e03ab673052ca4c7"), looks := false }, kinds := [], alts := [], laidByText := true, laidKinds := [.data, .data], laidTests := true, laidLooks := .later }
def ShaNoneUptoCardSaid : Prop := Claim7.holds Tryd.pinned (.plain (OpenSpec.upto shaNoneSpec)) shaNoneUptoCard

/-- THE SECOND FORM's CARD OF 'buttresslaw01.ShaParts'. -/
def shaPartsUptoCard : Claim7 := { stood := { row := shaPartsUptoRow, standIns := [], harness := (true, "5f6dabe5dd4987e612635012bcac86b3aeff4fbda8dbe536e03ab673052ca4c7"), looks := false }, kinds := [], alts := [], laidByText := true, laidKinds := [.data, .data], laidTests := true, laidLooks := .later }
def ShaPartsUptoCardSaid : Prop := Claim7.holds Tryd.pinned (.plain (OpenSpec.upto shaPartsSpec)) shaPartsUptoCard

/-- THE SECOND FORM's CARD OF 'buttresslaw01.ShaApart'. -/
def shaApartUptoCard : Claim7 := { stood := { row := shaApartUptoRow, standIns := [], harness := (true, "5f6dabe5dd4987e612635012bcac86b3aeff4fbda8dbe536e03ab673052ca4c7"), looks := false }, kinds := [], alts := [], laidByText := true, laidKinds := [.data, .data], laidTests := true, laidLooks := .later }
def ShaApartUptoCardSaid : Prop := Claim7.holds Tryd.pinned (.plain (OpenSpec.upto shaApartSpec)) shaApartUptoCard

/-- THE SECOND FORM's CARD OF 'buttresslaw11.ShardTells'. -/
def shardTellsUptoCard : Claim7 := { stood := { row := shardTellsUptoRow, standIns := [], harness := (true, "5f6dabe5dd4987e612635012bcac86b3aeff4fbda8dbe536e03ab673052ca4c7"), looks := false }, kinds := [], alts := [], laidByText := true, laidKinds := [.data, .data], laidTests := true, laidLooks := .later }
def ShardTellsUptoCardSaid : Prop := Claim7.holds Tryd.pinned (.plain (OpenSpec.upto shardTellsSpec)) shardTellsUptoCard

/-- THE SECOND FORM's CARD OF 'buttresslaw11.ShardNumbers'. -/
def shardNumbersUptoCard : Claim7 := { stood := { row := shardNumbersUptoRow, standIns := [], harness := (true, "5f6dabe5dd4987e612635012bcac86b3aeff4fbda8dbe536e03ab673052ca4c7"), looks := false }, kinds := [], alts := [], laidByText := true, laidKinds := [.data, .data], laidTests := true, laidLooks := .later }
def ShardNumbersUptoCardSaid : Prop := Claim7.holds Tryd.pinned (.plain (OpenSpec.upto shardNumbersSpec)) shardNumbersUptoCard

/-- THE SECOND FORM's CARD OF 'buttresslaw11.ShardWhole'. -/
def shardWholeUptoCard : Claim7 := { stood := { row := shardWholeUptoRow, standIns := [], harness := (true, "5f6dabe5dd4987e612635012bcac86b3aeff4fbda8dbe536e03ab673052ca4c7"), looks := false }, kinds := [], alts := [], laidByText := true, laidKinds := [.data, .data], laidTests := true, laidLooks := .later }
def ShardWholeUptoCardSaid : Prop := Claim7.holds Tryd.pinned (.plain (OpenSpec.upto shardWholeSpec)) shardWholeUptoCard
end Rows
end Go.Proofs.YtbbfcamopdckmaaDoor
