/-
  DERIVED. GIVEN WITH THE SEED: THE CARDS: each row of YtejbeokikpoheaaGreatDoorRows.lean that lists a variable, with what it lists TIED to the program's text (the seventh form; the later family's looks); each row that meets fmt, with fmt's text TOLD by the authors' own Lean function (tested against real Go, not proved from fmt's source: count such statements apart). THE CARD IS WHAT COUNTS. Prove the row's statement (the work); the ties are given (YtejbeokikpoheaaGreatDoorTie.lean); close each card by the builder's one call (the guide's Derived/Test/ToyasCard.lean, 'card_holds'). Laid BY PROGRAM, IN A SANDBOX (cutbox-door.mjs). By AI agents, Wed Nov 11 2026. No macro, syntax, notation, axiom, sorry.
-/
import Derived.Test.YtejbeokikpoheaaGreatDoorRows
import GoSem.ClaimSeven
namespace Go.Proofs.YtejbeokikpoheaaGreatDoor
namespace Rows

/-- THE TIED CARD OF 'oubliettekeep.FeedSame'. -/
def feedSameCard : Claim7 := { stood := { row := feedSameRow, standIns := [], harness := (true, "bf7ee64634e6120578436e25ae798fd205c7f39442f8de4e460bae10799deb6c"), looks := true }, kinds := [], alts := [], laidByText := true, laidKinds := [.data, .data, .handle, .widerDeep, .pinned], laidTests := true, laidLooks := .later }
def FeedSameCardSaid : Prop := Claim7.holds Tryz.pinned (.plain (OpenSpec.ofChange feedSameSpec)) feedSameCard

/-- THE SECOND FORM's CARD OF 'oubliettekeep.FeedSame'. -/
def feedSameUptoCard : Claim7 := { stood := { row := feedSameUptoRow, standIns := [], harness := (true, "bf7ee64634e6120578436e25ae798fd205c7f39442f8de4e460bae10799deb6c"), looks := true }, kinds := [], alts := [], laidByText := true, laidKinds := [.data, .data, .handle, .widerDeep, .pinned], laidTests := true, laidLooks := .later }
def FeedSameUptoCardSaid : Prop := Claim7.holds Tryz.pinned (.plain (OpenSpec.upto feedSameSpec)) feedSameUptoCard
end Rows
end Go.Proofs.YtejbeokikpoheaaGreatDoor
