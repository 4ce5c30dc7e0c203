/-
  DERIVED. GIVEN WITH THE SEED: THE CARDS: each row of YthjiifomjmdjbaaGreatDoorRows.lean that lists a variable, with what it lists TIED to the program's text (the seventh form; the later family's looks); each row that meets fmt, with fmt's text TOLD by the authors' own Lean function (tested against real Go, not proved from fmt's source: count such statements apart). THE CARD IS WHAT COUNTS. Prove the row's statement (the work); the ties are given (YthjiifomjmdjbaaGreatDoorTie.lean); close each card by the builder's one call (the guide's Derived/Test/ToyasCard.lean, 'card_holds'). Laid BY PROGRAM, IN A SANDBOX (cutbox-door.mjs). By AI agents, Wed Nov 11 2026. No macro, syntax, notation, axiom, sorry.
-/
import Derived.Test.YthjiifomjmdjbaaGreatDoorRows
import GoSem.ClaimSeven
namespace Go.Proofs.YthjiifomjmdjbaaGreatDoor
namespace Rows

/-- THE TIED CARD OF 'seesawlaw16.AttemptSnapshot'. -/
def attemptSnapshotCard : Claim7 := { stood := { row := attemptSnapshotRow, standIns := [], harness := (true, "6181e3a3710f7d6a70a2383c1e2253d9f7299f54a784bbbfaa8c6a856397dfea"), looks := false }, kinds := [], alts := [], laidByText := true, laidKinds := [.funcs], laidTests := true, laidLooks := .later }
def AttemptSnapshotCardSaid : Prop := Claim7.holds Tryz.pinned (.plain (OpenSpec.ofChange attemptSnapshotSpec)) attemptSnapshotCard

/-- THE SECOND FORM's CARD OF 'seesawlaw16.AttemptSnapshot'. -/
def attemptSnapshotUptoCard : Claim7 := { stood := { row := attemptSnapshotUptoRow, standIns := [], harness := (true, "6181e3a3710f7d6a70a2383c1e2253d9f7299f54a784bbbfaa8c6a856397dfea"), looks := false }, kinds := [], alts := [], laidByText := true, laidKinds := [.funcs], laidTests := true, laidLooks := .later }
def AttemptSnapshotUptoCardSaid : Prop := Claim7.holds Tryz.pinned (.plain (OpenSpec.upto attemptSnapshotSpec)) attemptSnapshotUptoCard
end Rows
end Go.Proofs.YthjiifomjmdjbaaGreatDoor
