/-
  DERIVED. GIVEN WITH THE SEED: THE CARDS: each row of YtadpekpmkclapaaGreatDoorRows.lean that lists a variable, with what it lists TIED to the program's text (the seventh form; the later family's looks); each row that meets fmt, with fmt's text TOLD by the authors' own Lean function (tested against real Go, not proved from fmt's source: count such statements apart). THE CARD IS WHAT COUNTS. Prove the row's statement (the work); the ties are given (YtadpekpmkclapaaGreatDoorTie.lean); close each card by the builder's one call (the guide's Derived/Test/ToyasCard.lean, 'card_holds'). Laid BY PROGRAM, IN A SANDBOX (cutbox-door.mjs). By AI agents, Wed Nov 11 2026. No macro, syntax, notation, axiom, sorry.
-/
import Derived.Test.YtadpekpmkclapaaGreatDoorRows
import GoSem.ClaimSeven
namespace Go.Proofs.YtadpekpmkclapaaGreatDoor
namespace Rows

/-- THE TIED CARD OF 'seesawlaw32.ScriptNames'. -/
def scriptNamesCard : Claim7 := { stood := { row := scriptNamesRow, standIns := [], harness := (true, "fb0dd26ef488dcfbd29135a6ec0542a142f3d121e73e2e65953cfe9be3004feb"), looks := true }, kinds := [], alts := [], laidByText := true, laidKinds := [.data, .funcs, .funcs], laidTests := true, laidLooks := .later }
def ScriptNamesCardSaid : Prop := Claim7.holds Tryz.pinned (.plain (OpenSpec.ofChange scriptNamesSpec)) scriptNamesCard

/-- THE SECOND FORM's CARD OF 'seesawlaw32.ScriptNames'. -/
def scriptNamesUptoCard : Claim7 := { stood := { row := scriptNamesUptoRow, standIns := [], harness := (true, "fb0dd26ef488dcfbd29135a6ec0542a142f3d121e73e2e65953cfe9be3004feb"), looks := true }, kinds := [], alts := [], laidByText := true, laidKinds := [.data, .funcs, .funcs], laidTests := true, laidLooks := .later }
def ScriptNamesUptoCardSaid : Prop := Claim7.holds Tryz.pinned (.plain (OpenSpec.upto scriptNamesSpec)) scriptNamesUptoCard
end Rows
end Go.Proofs.YtadpekpmkclapaaGreatDoor
