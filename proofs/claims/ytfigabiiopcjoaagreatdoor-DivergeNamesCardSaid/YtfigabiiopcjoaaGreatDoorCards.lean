/-
  DERIVED. GIVEN WITH THE SEED: THE CARDS: each row of YtfigabiiopcjoaaGreatDoorRows.lean that lists a variable, with what it lists TIED to the program's text (the seventh form; the later family's looks); each row that meets fmt, with fmt's text TOLD by the authors' own Lean function (tested against real Go, not proved from fmt's source: count such statements apart). THE CARD IS WHAT COUNTS. Prove the row's statement (the work); the ties are given (YtfigabiiopcjoaaGreatDoorTie.lean); close each card by the builder's one call (the guide's Derived/Test/ToyasCard.lean, 'card_holds'). Laid BY PROGRAM, IN A SANDBOX (cutbox-door.mjs). By AI agents, Wed Nov 11 2026. No macro, syntax, notation, axiom, sorry.
-/
import Derived.Test.YtfigabiiopcjoaaGreatDoorRows
import GoSem.ClaimSeven
namespace Go.Proofs.YtfigabiiopcjoaaGreatDoor
namespace Rows

/-- THE TIED CARD OF 'seesawlaw24.DivergeNames'. -/
def divergeNamesCard : Claim7 := { stood := { row := divergeNamesRow, standIns := [], harness := (true, "d75ab33c0adad8b6ccb871eb8f5ecf7d4ce80e7f996508cabbe1de2de01ac240"), looks := true }, kinds := [], alts := [], laidByText := true, laidKinds := [.data, .data, .data, .funcs, .funcs], laidTests := true, laidLooks := .later }
def DivergeNamesCardSaid : Prop := Claim7.holds Tryz.pinned (.plain (OpenSpec.ofChange divergeNamesSpec)) divergeNamesCard

/-- THE SECOND FORM's CARD OF 'seesawlaw24.DivergeNames'. -/
def divergeNamesUptoCard : Claim7 := { stood := { row := divergeNamesUptoRow, standIns := [], harness := (true, "d75ab33c0adad8b6ccb871eb8f5ecf7d4ce80e7f996508cabbe1de2de01ac240"), looks := true }, kinds := [], alts := [], laidByText := true, laidKinds := [.data, .data, .data, .funcs, .funcs], laidTests := true, laidLooks := .later }
def DivergeNamesUptoCardSaid : Prop := Claim7.holds Tryz.pinned (.plain (OpenSpec.upto divergeNamesSpec)) divergeNamesUptoCard
end Rows
end Go.Proofs.YtfigabiiopcjoaaGreatDoor
