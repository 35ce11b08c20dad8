/-
  DERIVED. GIVEN WITH THE SEED: THE CARDS: each row of YtafdigdopeahdaaGreatDoorRows.lean that lists a variable, with what it lists TIED to the program's text (the seventh form; the later family's looks); each row that meets fmt, with fmt's text TOLD by the authors' own Lean function (tested against real Go, not proved from fmt's source: count such statements apart). THE CARD IS WHAT COUNTS. Prove the row's statement (the work); the ties are given (YtafdigdopeahdaaGreatDoorTie.lean); close each card by the builder's one call (the guide's Derived/Test/ToyasCard.lean, 'card_holds'). Laid BY PROGRAM, IN A SANDBOX (cutbox-door.mjs). By AI agents, Wed Nov 11 2026. No macro, syntax, notation, axiom, sorry.
-/
import Derived.Test.YtafdigdopeahdaaGreatDoorRows
import GoSem.ClaimSeven
namespace Go.Proofs.YtafdigdopeahdaaGreatDoor
namespace Rows

/-- THE TIED CARD OF 'oubliettekeep.ReaderSame'. -/
def readerSameCard : Claim7 := { stood := { row := readerSameRow, standIns := [], harness := (true, "0aa7e17780847e29b261c8299ddabec8b0364398943e5c5adfb61a80227cd7b1"), looks := true }, kinds := [], alts := [], laidByText := true, laidKinds := [.data, .data, .handle, .widerDeep, .pinned], laidTests := true, laidLooks := .later }
def ReaderSameCardSaid : Prop := Claim7.holds Tryz.pinned (.plain (OpenSpec.ofChange readerSameSpec)) readerSameCard

/-- THE TIED CARD OF 'oubliettekeep.ReaderAgain'. -/
def readerAgainCard : Claim7 := { stood := { row := readerAgainRow, standIns := [], harness := (true, "0aa7e17780847e29b261c8299ddabec8b0364398943e5c5adfb61a80227cd7b1"), looks := true }, kinds := [], alts := [], laidByText := true, laidKinds := [.data, .data, .handle, .widerDeep, .pinned], laidTests := true, laidLooks := .later }
def ReaderAgainCardSaid : Prop := Claim7.holds Tryz.pinned (.plain (OpenSpec.ofChange readerAgainSpec)) readerAgainCard

/-- THE TIED CARD OF 'oubliettekeep.ReaderLate'. -/
def readerLateCard : Claim7 := { stood := { row := readerLateRow, standIns := [], harness := (true, "0aa7e17780847e29b261c8299ddabec8b0364398943e5c5adfb61a80227cd7b1"), looks := true }, kinds := [], alts := [], laidByText := true, laidKinds := [.data, .data, .handle, .widerDeep, .pinned], laidTests := true, laidLooks := .later }
def ReaderLateCardSaid : Prop := Claim7.holds Tryz.pinned (.plain (OpenSpec.ofChange readerLateSpec)) readerLateCard

/-- THE TIED CARD OF 'oubliettekeep.ReaderSaves'. -/
def readerSavesCard : Claim7 := { stood := { row := readerSavesRow, standIns := [], harness := (true, "0aa7e17780847e29b261c8299ddabec8b0364398943e5c5adfb61a80227cd7b1"), looks := true }, kinds := [], alts := [], laidByText := true, laidKinds := [.data, .data, .handle, .widerDeep, .pinned], laidTests := true, laidLooks := .later }
def ReaderSavesCardSaid : Prop := Claim7.holds Tryz.pinned (.plain (OpenSpec.ofChange readerSavesSpec)) readerSavesCard

/-- THE SECOND FORM's CARD OF 'oubliettekeep.ReaderSame'. -/
def readerSameUptoCard : Claim7 := { stood := { row := readerSameUptoRow, standIns := [], harness := (true, "0aa7e17780847e29b261c8299ddabec8b0364398943e5c5adfb61a80227cd7b1"), looks := true }, kinds := [], alts := [], laidByText := true, laidKinds := [.data, .data, .handle, .widerDeep, .pinned], laidTests := true, laidLooks := .later }
def ReaderSameUptoCardSaid : Prop := Claim7.holds Tryz.pinned (.plain (OpenSpec.upto readerSameSpec)) readerSameUptoCard

/-- THE SECOND FORM's CARD OF 'oubliettekeep.ReaderAgain'. -/
def readerAgainUptoCard : Claim7 := { stood := { row := readerAgainUptoRow, standIns := [], harness := (true, "0aa7e17780847e29b261c8299ddabec8b0364398943e5c5adfb61a80227cd7b1"), looks := true }, kinds := [], alts := [], laidByText := true, laidKinds := [.data, .data, .handle, .widerDeep, .pinned], laidTests := true, laidLooks := .later }
def ReaderAgainUptoCardSaid : Prop := Claim7.holds Tryz.pinned (.plain (OpenSpec.upto readerAgainSpec)) readerAgainUptoCard

/-- THE SECOND FORM's CARD OF 'oubliettekeep.ReaderLate'. -/
def readerLateUptoCard : Claim7 := { stood := { row := readerLateUptoRow, standIns := [], harness := (true, "0aa7e17780847e29b261c8299ddabec8b0364398943e5c5adfb61a80227cd7b1"), looks := true }, kinds := [], alts := [], laidByText := true, laidKinds := [.data, .data, .handle, .widerDeep, .pinned], laidTests := true, laidLooks := .later }
def ReaderLateUptoCardSaid : Prop := Claim7.holds Tryz.pinned (.plain (OpenSpec.upto readerLateSpec)) readerLateUptoCard

/-- THE SECOND FORM's CARD OF 'oubliettekeep.ReaderSaves'. -/
def readerSavesUptoCard : Claim7 := { stood := { row := readerSavesUptoRow, standIns := [], harness := (true, "0aa7e17780847e29b261c8299ddabec8b0364398943e5c5adfb61a80227cd7b1"), looks := true }, kinds := [], alts := [], laidByText := true, laidKinds := [.data, .data, .handle, .widerDeep, .pinned], laidTests := true, laidLooks := .later }
def ReaderSavesUptoCardSaid : Prop := Claim7.holds Tryz.pinned (.plain (OpenSpec.upto readerSavesSpec)) readerSavesUptoCard
end Rows
end Go.Proofs.YtafdigdopeahdaaGreatDoor
