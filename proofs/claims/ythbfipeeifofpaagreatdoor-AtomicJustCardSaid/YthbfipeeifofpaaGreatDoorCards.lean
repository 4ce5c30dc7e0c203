/-
  DERIVED. GIVEN WITH THE SEED: THE CARDS: each row of YthbfipeeifofpaaGreatDoorRows.lean that lists a variable, with what it lists TIED to the program's text (the seventh form; the later family's looks); each row that meets fmt, with fmt's text TOLD by the authors' own Lean function (tested against real Go, not proved from fmt's source: count such statements apart). THE CARD IS WHAT COUNTS. Prove the row's statement (the work); the ties are given (YthbfipeeifofpaaGreatDoorTie.lean); close each card by the builder's one call (the guide's Derived/Test/ToyasCard.lean, 'card_holds'). Laid BY PROGRAM, IN A SANDBOX (cutbox-door.mjs). By AI agents, Wed Nov 11 2026. No macro, syntax, notation, axiom, sorry.
-/
import Derived.Test.YthbfipeeifofpaaGreatDoorRows
import GoSem.ClaimSeven
namespace Go.Proofs.YthbfipeeifofpaaGreatDoor
namespace Rows

/-- THE TIED CARD OF 'seesawlaw22.AtomicJust'. -/
def atomicJustCard : Claim7 := { stood := { row := atomicJustRow, standIns := [], harness := (true, "f8b2d221c9ef320b1ba0e2c803ae472e74b05d70073d4b6394e090445298c778"), looks := false }, kinds := [], alts := [], laidByText := true, laidKinds := [.funcs], laidTests := true, laidLooks := .later }
def AtomicJustCardSaid : Prop := Claim7.holds Tryz.pinned (.plain (OpenSpec.ofChange atomicJustSpec)) atomicJustCard

/-- THE SECOND FORM's CARD OF 'seesawlaw22.AtomicJust'. -/
def atomicJustUptoCard : Claim7 := { stood := { row := atomicJustUptoRow, standIns := [], harness := (true, "f8b2d221c9ef320b1ba0e2c803ae472e74b05d70073d4b6394e090445298c778"), looks := false }, kinds := [], alts := [], laidByText := true, laidKinds := [.funcs], laidTests := true, laidLooks := .later }
def AtomicJustUptoCardSaid : Prop := Claim7.holds Tryz.pinned (.plain (OpenSpec.upto atomicJustSpec)) atomicJustUptoCard
end Rows
end Go.Proofs.YthbfipeeifofpaaGreatDoor
