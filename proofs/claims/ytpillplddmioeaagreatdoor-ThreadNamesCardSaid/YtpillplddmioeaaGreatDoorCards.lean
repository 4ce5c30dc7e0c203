/-
  DERIVED. GIVEN WITH THE SEED: THE CARDS: each row of YtpillplddmioeaaGreatDoorRows.lean that lists a variable, with what it lists TIED to the program's text (the seventh form; the later family's looks); each row that meets fmt, with fmt's text TOLD by the authors' own Lean function (tested against real Go, not proved from fmt's source: count such statements apart). THE CARD IS WHAT COUNTS. Prove the row's statement (the work); the ties are given (YtpillplddmioeaaGreatDoorTie.lean); close each card by the builder's one call (the guide's Derived/Test/ToyasCard.lean, 'card_holds'). Laid BY PROGRAM, IN A SANDBOX (cutbox-door.mjs). By AI agents, Wed Nov 11 2026. No macro, syntax, notation, axiom, sorry.
-/
import Derived.Test.YtpillplddmioeaaGreatDoorRows
import GoSem.ClaimSeven
namespace Go.Proofs.YtpillplddmioeaaGreatDoor
namespace Rows

/-- THE TIED CARD OF 'seesawlaw19.ThreadNames'. -/
def threadNamesCard : Claim7 := { stood := { row := threadNamesRow, standIns := [], harness := (true, "a2b44db25642642daf4da75430879eec36abaf13681eb3608506e5d0607c73a4"), looks := true }, kinds := [], alts := [], laidByText := true, laidKinds := [.funcs], laidTests := true, laidLooks := .later }
def ThreadNamesCardSaid : Prop := Claim7.holds Tryz.pinned (.plain (OpenSpec.ofChange threadNamesSpec)) threadNamesCard

/-- THE SECOND FORM's CARD OF 'seesawlaw19.ThreadNames'. -/
def threadNamesUptoCard : Claim7 := { stood := { row := threadNamesUptoRow, standIns := [], harness := (true, "a2b44db25642642daf4da75430879eec36abaf13681eb3608506e5d0607c73a4"), looks := true }, kinds := [], alts := [], laidByText := true, laidKinds := [.funcs], laidTests := true, laidLooks := .later }
def ThreadNamesUptoCardSaid : Prop := Claim7.holds Tryz.pinned (.plain (OpenSpec.upto threadNamesSpec)) threadNamesUptoCard
end Rows
end Go.Proofs.YtpillplddmioeaaGreatDoor
