/-
  DERIVED. GIVEN WITH THE SEED: THE CARDS: each row of YtdmgdhoofmbgfaaGreatDoorRows.lean that lists a variable, with what it lists TIED to the program's text (the seventh form; the later family's looks); each row that meets fmt, with fmt's text TOLD by the authors' own Lean function (tested against real Go, not proved from fmt's source: count such statements apart). THE CARD IS WHAT COUNTS. Prove the row's statement (the work); the ties are given (YtdmgdhoofmbgfaaGreatDoorTie.lean); close each card by the builder's one call (the guide's Derived/Test/ToyasCard.lean, 'card_holds'). Laid BY PROGRAM, IN A SANDBOX (cutbox-door.mjs). By AI agents, Wed Nov 11 2026. No macro, syntax, notation, axiom, sorry.
-/
import Derived.Test.YtdmgdhoofmbgfaaGreatDoorRows
import GoSem.ClaimSeven
namespace Go.Proofs.YtdmgdhoofmbgfaaGreatDoor
namespace Rows

/-- THE TIED CARD OF 'seesawlaw23.GateNames'. -/
def gateNamesCard : Claim7 := { stood := { row := gateNamesRow, standIns := [], harness := (true, "99f83e8dcaf98954c2b0517d85660d8aee32bde7895e627e3d530e8b61db1e06"), looks := true }, kinds := [], alts := [], laidByText := true, laidKinds := [.data, .funcs, .funcs], laidTests := true, laidLooks := .later }
def GateNamesCardSaid : Prop := Claim7.holds Tryz.pinned (.plain (OpenSpec.ofChange gateNamesSpec)) gateNamesCard

/-- THE SECOND FORM's CARD OF 'seesawlaw23.GateNames'. -/
def gateNamesUptoCard : Claim7 := { stood := { row := gateNamesUptoRow, standIns := [], harness := (true, "99f83e8dcaf98954c2b0517d85660d8aee32bde7895e627e3d530e8b61db1e06"), looks := true }, kinds := [], alts := [], laidByText := true, laidKinds := [.data, .funcs, .funcs], laidTests := true, laidLooks := .later }
def GateNamesUptoCardSaid : Prop := Claim7.holds Tryz.pinned (.plain (OpenSpec.upto gateNamesSpec)) gateNamesUptoCard
end Rows
end Go.Proofs.YtdmgdhoofmbgfaaGreatDoor
