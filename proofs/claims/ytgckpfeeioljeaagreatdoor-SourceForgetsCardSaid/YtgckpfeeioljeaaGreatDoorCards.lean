/-
  DERIVED. GIVEN WITH THE SEED: THE CARDS: each row of YtgckpfeeioljeaaGreatDoorRows.lean that lists a variable, with what it lists TIED to the program's text (the seventh form; the later family's looks); each row that meets fmt, with fmt's text TOLD by the authors' own Lean function (tested against real Go, not proved from fmt's source: count such statements apart). THE CARD IS WHAT COUNTS. Prove the row's statement (the work); the ties are given (YtgckpfeeioljeaaGreatDoorTie.lean); close each card by the builder's one call (the guide's Derived/Test/ToyasCard.lean, 'card_holds'). Laid BY PROGRAM, IN A SANDBOX (cutbox-door.mjs). By AI agents, Wed Nov 11 2026. No macro, syntax, notation, axiom, sorry.
-/
import Derived.Test.YtgckpfeeioljeaaGreatDoorRows
import GoSem.ClaimSeven
namespace Go.Proofs.YtgckpfeeioljeaaGreatDoor
namespace Rows

/-- THE TIED CARD OF 'oubliettekeep.WireReads'. -/
def wireReadsCard : Claim7 := { stood := { row := wireReadsRow, standIns := [], harness := (true, "e513c66d768d31bcb25d5d34f813ea5c1c48ad0916776e8fd3f22d7eb43b7aa5"), looks := true }, kinds := [], alts := [], laidByText := true, laidKinds := [.data, .data, .handle, .widerDeep, .pinned], laidTests := true, laidLooks := .later }
def WireReadsCardSaid : Prop := Claim7.holds Tryz.pinned (.plain (OpenSpec.ofChange wireReadsSpec)) wireReadsCard

/-- THE TIED CARD OF 'oubliettekeep.SourceAgain'. -/
def sourceAgainCard : Claim7 := { stood := { row := sourceAgainRow, standIns := [], harness := (true, "e513c66d768d31bcb25d5d34f813ea5c1c48ad0916776e8fd3f22d7eb43b7aa5"), looks := true }, kinds := [], alts := [], laidByText := true, laidKinds := [.data, .data, .handle, .widerDeep, .pinned], laidTests := true, laidLooks := .later }
def SourceAgainCardSaid : Prop := Claim7.holds Tryz.pinned (.plain (OpenSpec.ofChange sourceAgainSpec)) sourceAgainCard

/-- THE TIED CARD OF 'oubliettekeep.SourceOwns'. -/
def sourceOwnsCard : Claim7 := { stood := { row := sourceOwnsRow, standIns := [], harness := (true, "e513c66d768d31bcb25d5d34f813ea5c1c48ad0916776e8fd3f22d7eb43b7aa5"), looks := true }, kinds := [], alts := [], laidByText := true, laidKinds := [.data, .data, .handle, .widerDeep, .pinned], laidTests := true, laidLooks := .later }
def SourceOwnsCardSaid : Prop := Claim7.holds Tryz.pinned (.plain (OpenSpec.ofChange sourceOwnsSpec)) sourceOwnsCard

/-- THE TIED CARD OF 'oubliettekeep.FeedBack'. -/
def feedBackCard : Claim7 := { stood := { row := feedBackRow, standIns := [], harness := (true, "e513c66d768d31bcb25d5d34f813ea5c1c48ad0916776e8fd3f22d7eb43b7aa5"), looks := true }, kinds := [], alts := [], laidByText := true, laidKinds := [.data, .data, .handle, .widerDeep, .pinned], laidTests := true, laidLooks := .later }
def FeedBackCardSaid : Prop := Claim7.holds Tryz.pinned (.plain (OpenSpec.ofChange feedBackSpec)) feedBackCard

/-- THE TIED CARD OF 'oubliettekeep.SourceForgets'. -/
def sourceForgetsCard : Claim7 := { stood := { row := sourceForgetsRow, standIns := [], harness := (true, "e513c66d768d31bcb25d5d34f813ea5c1c48ad0916776e8fd3f22d7eb43b7aa5"), looks := true }, kinds := [], alts := [], laidByText := true, laidKinds := [.data, .data, .handle, .widerDeep, .pinned], laidTests := true, laidLooks := .later }
def SourceForgetsCardSaid : Prop := Claim7.holds Tryz.pinned (.plain (OpenSpec.ofChange sourceForgetsSpec)) sourceForgetsCard

/-- THE SECOND FORM's CARD OF 'oubliettekeep.WireReads'. -/
def wireReadsUptoCard : Claim7 := { stood := { row := wireReadsUptoRow, standIns := [], harness := (true, "e513c66d768d31bcb25d5d34f813ea5c1c48ad0916776e8fd3f22d7eb43b7aa5"), looks := true }, kinds := [], alts := [], laidByText := true, laidKinds := [.data, .data, .handle, .widerDeep, .pinned], laidTests := true, laidLooks := .later }
def WireReadsUptoCardSaid : Prop := Claim7.holds Tryz.pinned (.plain (OpenSpec.upto wireReadsSpec)) wireReadsUptoCard

/-- THE SECOND FORM's CARD OF 'oubliettekeep.SourceAgain'. -/
def sourceAgainUptoCard : Claim7 := { stood := { row := sourceAgainUptoRow, standIns := [], harness := (true, "e513c66d768d31bcb25d5d34f813ea5c1c48ad0916776e8fd3f22d7eb43b7aa5"), looks := true }, kinds := [], alts := [], laidByText := true, laidKinds := [.data, .data, .handle, .widerDeep, .pinned], laidTests := true, laidLooks := .later }
def SourceAgainUptoCardSaid : Prop := Claim7.holds Tryz.pinned (.plain (OpenSpec.upto sourceAgainSpec)) sourceAgainUptoCard

/-- THE SECOND FORM's CARD OF 'oubliettekeep.SourceOwns'. -/
def sourceOwnsUptoCard : Claim7 := { stood := { row := sourceOwnsUptoRow, standIns := [], harness := (true, "e513c66d768d31bcb25d5d34f813ea5c1c48ad0916776e8fd3f22d7eb43b7aa5"), looks := true }, kinds := [], alts := [], laidByText := true, laidKinds := [.data, .data, .handle, .widerDeep, .pinned], laidTests := true, laidLooks := .later }
def SourceOwnsUptoCardSaid : Prop := Claim7.holds Tryz.pinned (.plain (OpenSpec.upto sourceOwnsSpec)) sourceOwnsUptoCard

/-- THE SECOND FORM's CARD OF 'oubliettekeep.FeedBack'. -/
def feedBackUptoCard : Claim7 := { stood := { row := feedBackUptoRow, standIns := [], harness := (true, "e513c66d768d31bcb25d5d34f813ea5c1c48ad0916776e8fd3f22d7eb43b7aa5"), looks := true }, kinds := [], alts := [], laidByText := true, laidKinds := [.data, .data, .handle, .widerDeep, .pinned], laidTests := true, laidLooks := .later }
def FeedBackUptoCardSaid : Prop := Claim7.holds Tryz.pinned (.plain (OpenSpec.upto feedBackSpec)) feedBackUptoCard

/-- THE SECOND FORM's CARD OF 'oubliettekeep.SourceForgets'. -/
def sourceForgetsUptoCard : Claim7 := { stood := { row := sourceForgetsUptoRow, standIns := [], harness := (true, "e513c66d768d31bcb25d5d34f813ea5c1c48ad0916776e8fd3f22d7eb43b7aa5"), looks := true }, kinds := [], alts := [], laidByText := true, laidKinds := [.data, .data, .handle, .widerDeep, .pinned], laidTests := true, laidLooks := .later }
def SourceForgetsUptoCardSaid : Prop := Claim7.holds Tryz.pinned (.plain (OpenSpec.upto sourceForgetsSpec)) sourceForgetsUptoCard
end Rows
end Go.Proofs.YtgckpfeeioljeaaGreatDoor
