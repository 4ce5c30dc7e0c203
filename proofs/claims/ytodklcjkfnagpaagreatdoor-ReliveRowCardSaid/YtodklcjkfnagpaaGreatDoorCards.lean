/-
  DERIVED. GIVEN WITH THE SEED: THE CARDS: each row of YtodklcjkfnagpaaGreatDoorRows.lean that lists a variable, with what it lists TIED to the program's text (the seventh form; the later family's looks); each row that meets fmt, with fmt's text TOLD by the authors' own Lean function (tested against real Go, not proved from fmt's source: count such statements apart). THE CARD IS WHAT COUNTS. Prove the row's statement (the work); the ties are given (YtodklcjkfnagpaaGreatDoorTie.lean); close each card by the builder's one call (the guide's Derived/Test/ToyasCard.lean, 'card_holds'). Laid BY PROGRAM, IN A SANDBOX (cutbox-door.mjs). By AI agents, Wed Nov 11 2026. No macro, syntax, notation, axiom, sorry.
-/
import Derived.Test.YtodklcjkfnagpaaGreatDoorRows
import GoSem.ClaimSeven
namespace Go.Proofs.YtodklcjkfnagpaaGreatDoor
namespace Rows

/-- THE TIED CARD OF 'seesawlaw30.ReliveRow'. -/
def reliveRowCard : Claim7 := { stood := { row := reliveRowRow, standIns := [], harness := (true, "2540cac461651c401ea6a508f95f8cc54980abb56817b19081c3fa76e5c7da76"), looks := false }, kinds := [], alts := [], laidByText := true, laidKinds := [.funcs], laidTests := true, laidLooks := .later }
def ReliveRowCardSaid : Prop := Claim7.holds Tryz.pinned (.plain (OpenSpec.ofChange reliveRowSpec)) reliveRowCard

/-- THE SECOND FORM's CARD OF 'seesawlaw30.ReliveRow'. -/
def reliveRowUptoCard : Claim7 := { stood := { row := reliveRowUptoRow, standIns := [], harness := (true, "2540cac461651c401ea6a508f95f8cc54980abb56817b19081c3fa76e5c7da76"), looks := false }, kinds := [], alts := [], laidByText := true, laidKinds := [.funcs], laidTests := true, laidLooks := .later }
def ReliveRowUptoCardSaid : Prop := Claim7.holds Tryz.pinned (.plain (OpenSpec.upto reliveRowSpec)) reliveRowUptoCard
end Rows
end Go.Proofs.YtodklcjkfnagpaaGreatDoor
