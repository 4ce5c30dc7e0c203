/-
  DERIVED. GIVEN WITH THE SEED: THE CARDS: each row of YtliojfapnagkbaaGreatDoorRows.lean that lists a variable, with what it lists TIED to the program's text (the seventh form; the later family's looks); each row that meets fmt, with fmt's text TOLD by the authors' own Lean function (tested against real Go, not proved from fmt's source: count such statements apart). THE CARD IS WHAT COUNTS. Prove the row's statement (the work); the ties are given (YtliojfapnagkbaaGreatDoorTie.lean); close each card by the builder's one call (the guide's Derived/Test/ToyasCard.lean, 'card_holds'). Laid BY PROGRAM, IN A SANDBOX (cutbox-door.mjs). By AI agents, Wed Nov 11 2026. No macro, syntax, notation, axiom, sorry.
-/
import Derived.Test.YtliojfapnagkbaaGreatDoorRows
import GoSem.ClaimSeven
namespace Go.Proofs.YtliojfapnagkbaaGreatDoor
namespace Rows

/-- THE TIED CARD OF 'seesawlaw20.SchedNames'. -/
def schedNamesCard : Claim7 := { stood := { row := schedNamesRow, standIns := [], harness := (true, "05fb1b47869106f330cbfe5faeaa3e80f30a7a6d65658a18eeeb4aee3f69888f"), looks := true }, kinds := [], alts := [], laidByText := true, laidKinds := [.funcs], laidTests := true, laidLooks := .later }
def SchedNamesCardSaid : Prop := Claim7.holds Tryz.pinned (.plain (OpenSpec.ofChange schedNamesSpec)) schedNamesCard

/-- THE SECOND FORM's CARD OF 'seesawlaw20.SchedNames'. -/
def schedNamesUptoCard : Claim7 := { stood := { row := schedNamesUptoRow, standIns := [], harness := (true, "05fb1b47869106f330cbfe5faeaa3e80f30a7a6d65658a18eeeb4aee3f69888f"), looks := true }, kinds := [], alts := [], laidByText := true, laidKinds := [.funcs], laidTests := true, laidLooks := .later }
def SchedNamesUptoCardSaid : Prop := Claim7.holds Tryz.pinned (.plain (OpenSpec.upto schedNamesSpec)) schedNamesUptoCard
end Rows
end Go.Proofs.YtliojfapnagkbaaGreatDoor
