/-
  DERIVED. GIVEN WITH THE SEED: THE CARDS: each row of YtcbcknfhblamfaaGreatDoorRows.lean that lists a variable, with what it lists TIED to the program's text (the seventh form; the later family's looks); each row that meets fmt, with fmt's text TOLD by the authors' own Lean function (tested against real Go, not proved from fmt's source: count such statements apart). THE CARD IS WHAT COUNTS. Prove the row's statement (the work); the ties are given (YtcbcknfhblamfaaGreatDoorTie.lean); close each card by the builder's one call (the guide's Derived/Test/ToyasCard.lean, 'card_holds'). Laid BY PROGRAM, IN A SANDBOX (cutbox-door.mjs). By AI agents, Wed Nov 11 2026. No macro, syntax, notation, axiom, sorry.
-/
import Derived.Test.YtcbcknfhblamfaaGreatDoorRows
import GoSem.ClaimSeven
namespace Go.Proofs.YtcbcknfhblamfaaGreatDoor
namespace Rows

/-- THE TIED CARD OF 'oubliettelaw.TableApplies'. -/
def tableAppliesCard : Claim7 := { stood := { row := tableAppliesRow, standIns := [], harness := (true, "9384cf59f1b548336a64fe3bdd6ba88fd3d5ef2cf3781c26292e98dde69f16e5"), looks := true }, kinds := [], alts := [], laidByText := true, laidKinds := [.data, .handle, .pinned], laidTests := true, laidLooks := .later }
def TableAppliesCardSaid : Prop := Claim7.holds Tryz.pinned (.plain (OpenSpec.ofChange tableAppliesSpec)) tableAppliesCard

/-- THE SECOND FORM's CARD OF 'oubliettelaw.TableApplies'. -/
def tableAppliesUptoCard : Claim7 := { stood := { row := tableAppliesUptoRow, standIns := [], harness := (true, "9384cf59f1b548336a64fe3bdd6ba88fd3d5ef2cf3781c26292e98dde69f16e5"), looks := true }, kinds := [], alts := [], laidByText := true, laidKinds := [.data, .handle, .pinned], laidTests := true, laidLooks := .later }
def TableAppliesUptoCardSaid : Prop := Claim7.holds Tryz.pinned (.plain (OpenSpec.upto tableAppliesSpec)) tableAppliesUptoCard
end Rows
end Go.Proofs.YtcbcknfhblamfaaGreatDoor
