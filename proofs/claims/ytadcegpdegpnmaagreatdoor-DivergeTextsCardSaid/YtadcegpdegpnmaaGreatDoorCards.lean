/-
  DERIVED. GIVEN WITH THE SEED: THE CARDS: each row of YtadcegpdegpnmaaGreatDoorRows.lean that lists a variable, with what it lists TIED to the program's text (the seventh form; the later family's looks); each row that meets fmt, with fmt's text TOLD by the authors' own Lean function (tested against real Go, not proved from fmt's source: count such statements apart). THE CARD IS WHAT COUNTS. Prove the row's statement (the work); the ties are given (YtadcegpdegpnmaaGreatDoorTie.lean); close each card by the builder's one call (the guide's Derived/Test/ToyasCard.lean, 'card_holds'). Laid BY PROGRAM, IN A SANDBOX (cutbox-door.mjs). By AI agents, Wed Nov 11 2026. No macro, syntax, notation, axiom, sorry.
-/
import Derived.Test.YtadcegpdegpnmaaGreatDoorRows
import GoSem.ClaimSeven
namespace Go.Proofs.YtadcegpdegpnmaaGreatDoor
namespace Rows

/-- THE TIED CARD OF 'seesawlaw24.DivergeTexts'. -/
def divergeTextsCard : Claim7 := { stood := { row := divergeTextsRow, standIns := [], harness := (true, "31f2e70e9ac7537119278bfb2eddce5366409f2b33aa2a3f116278a26c7e58b3"), looks := true }, kinds := [], alts := [], laidByText := true, laidKinds := [.data, .data, .data, .funcs, .data, .funcs], laidTests := true, laidLooks := .later }
def DivergeTextsCardSaid : Prop := Claim7.holds Tryz.pinned (.plain (OpenSpec.ofChange divergeTextsSpec)) divergeTextsCard

/-- THE SECOND FORM's CARD OF 'seesawlaw24.DivergeTexts'. -/
def divergeTextsUptoCard : Claim7 := { stood := { row := divergeTextsUptoRow, standIns := [], harness := (true, "31f2e70e9ac7537119278bfb2eddce5366409f2b33aa2a3f116278a26c7e58b3"), looks := true }, kinds := [], alts := [], laidByText := true, laidKinds := [.data, .data, .data, .funcs, .data, .funcs], laidTests := true, laidLooks := .later }
def DivergeTextsUptoCardSaid : Prop := Claim7.holds Tryz.pinned (.plain (OpenSpec.upto divergeTextsSpec)) divergeTextsUptoCard
end Rows
end Go.Proofs.YtadcegpdegpnmaaGreatDoor
