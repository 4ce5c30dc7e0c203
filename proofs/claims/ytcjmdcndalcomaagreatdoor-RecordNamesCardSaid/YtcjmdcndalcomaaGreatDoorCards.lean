/-
  DERIVED. GIVEN WITH THE SEED: THE CARDS: each row of YtcjmdcndalcomaaGreatDoorRows.lean that lists a variable, with what it lists TIED to the program's text (the seventh form; the later family's looks); each row that meets fmt, with fmt's text TOLD by the authors' own Lean function (tested against real Go, not proved from fmt's source: count such statements apart). THE CARD IS WHAT COUNTS. Prove the row's statement (the work); the ties are given (YtcjmdcndalcomaaGreatDoorTie.lean); close each card by the builder's one call (the guide's Derived/Test/ToyasCard.lean, 'card_holds'). Laid BY PROGRAM, IN A SANDBOX (cutbox-door.mjs). By AI agents, Wed Nov 11 2026. No macro, syntax, notation, axiom, sorry.
-/
import Derived.Test.YtcjmdcndalcomaaGreatDoorRows
import GoSem.ClaimSeven
namespace Go.Proofs.YtcjmdcndalcomaaGreatDoor
namespace Rows

/-- THE TIED CARD OF 'seesawlaw21.RecordNames'. -/
def recordNamesCard : Claim7 := { stood := { row := recordNamesRow, standIns := [], harness := (true, "b7b6dcb175a3403663d699b8c949a36d7acd68923279b7fa4568fc5fa20a98ba"), looks := true }, kinds := [], alts := [], laidByText := true, laidKinds := [.funcs], laidTests := true, laidLooks := .later }
def RecordNamesCardSaid : Prop := Claim7.holds Tryz.pinned (.plain (OpenSpec.ofChange recordNamesSpec)) recordNamesCard

/-- THE SECOND FORM's CARD OF 'seesawlaw21.RecordNames'. -/
def recordNamesUptoCard : Claim7 := { stood := { row := recordNamesUptoRow, standIns := [], harness := (true, "b7b6dcb175a3403663d699b8c949a36d7acd68923279b7fa4568fc5fa20a98ba"), looks := true }, kinds := [], alts := [], laidByText := true, laidKinds := [.funcs], laidTests := true, laidLooks := .later }
def RecordNamesUptoCardSaid : Prop := Claim7.holds Tryz.pinned (.plain (OpenSpec.upto recordNamesSpec)) recordNamesUptoCard
end Rows
end Go.Proofs.YtcjmdcndalcomaaGreatDoor
