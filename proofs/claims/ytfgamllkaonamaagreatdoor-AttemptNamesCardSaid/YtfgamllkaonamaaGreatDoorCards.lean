/-
  DERIVED. GIVEN WITH THE SEED: THE CARDS: each row of YtfgamllkaonamaaGreatDoorRows.lean that lists a variable, with what it lists TIED to the program's text (the seventh form; the later family's looks); each row that meets fmt, with fmt's text TOLD by the authors' own Lean function (tested against real Go, not proved from fmt's source: count such statements apart). THE CARD IS WHAT COUNTS. Prove the row's statement (the work); the ties are given (YtfgamllkaonamaaGreatDoorTie.lean); close each card by the builder's one call (the guide's Derived/Test/ToyasCard.lean, 'card_holds'). Laid BY PROGRAM, IN A SANDBOX (cutbox-door.mjs). By AI agents, Wed Nov 11 2026. No macro, syntax, notation, axiom, sorry.
-/
import Derived.Test.YtfgamllkaonamaaGreatDoorRows
import GoSem.ClaimSeven
namespace Go.Proofs.YtfgamllkaonamaaGreatDoor
namespace Rows

/-- THE TIED CARD OF 'seesawlaw16.AttemptNames'. -/
def attemptNamesCard : Claim7 := { stood := { row := attemptNamesRow, standIns := [], harness := (true, "ca8505ed7bbde9fae0bdc9f64e238f3a2f597e272778e23d18ec22e0ee2d7d30"), looks := true }, kinds := [], alts := [], laidByText := true, laidKinds := [.funcs], laidTests := true, laidLooks := .later }
def AttemptNamesCardSaid : Prop := Claim7.holds Tryz.pinned (.plain (OpenSpec.ofChange attemptNamesSpec)) attemptNamesCard

/-- THE SECOND FORM's CARD OF 'seesawlaw16.AttemptNames'. -/
def attemptNamesUptoCard : Claim7 := { stood := { row := attemptNamesUptoRow, standIns := [], harness := (true, "ca8505ed7bbde9fae0bdc9f64e238f3a2f597e272778e23d18ec22e0ee2d7d30"), looks := true }, kinds := [], alts := [], laidByText := true, laidKinds := [.funcs], laidTests := true, laidLooks := .later }
def AttemptNamesUptoCardSaid : Prop := Claim7.holds Tryz.pinned (.plain (OpenSpec.upto attemptNamesSpec)) attemptNamesUptoCard
end Rows
end Go.Proofs.YtfgamllkaonamaaGreatDoor
