/-
  DERIVED. GIVEN WITH THE SEED: THE CARDS: each row of YtlmoemfddoedgaaGreatDoorRows.lean that lists a variable, with what it lists TIED to the program's text (the seventh form; the later family's looks); each row that meets fmt, with fmt's text TOLD by the authors' own Lean function (tested against real Go, not proved from fmt's source: count such statements apart). THE CARD IS WHAT COUNTS. Prove the row's statement (the work); the ties are given (YtlmoemfddoedgaaGreatDoorTie.lean); close each card by the builder's one call (the guide's Derived/Test/ToyasCard.lean, 'card_holds'). Laid BY PROGRAM, IN A SANDBOX (cutbox-door.mjs). By AI agents, Wed Nov 11 2026. No macro, syntax, notation, axiom, sorry.
-/
import Derived.Test.YtlmoemfddoedgaaGreatDoorRows
import GoSem.ClaimSeven
namespace Go.Proofs.YtlmoemfddoedgaaGreatDoor
namespace Rows

/-- THE TIED CARD OF 'seesawlaw28.SerialNames'. -/
def serialNamesCard : Claim7 := { stood := { row := serialNamesRow, standIns := [], harness := (true, "3609fddb8c52adc89c34a671e01d4b4d85021e2317123e1780c535fa1107fd64"), looks := false }, kinds := [], alts := [], laidByText := true, laidKinds := [.funcs], laidTests := true, laidLooks := .later }
def SerialNamesCardSaid : Prop := Claim7.holds Tryz.pinned (.plain (OpenSpec.ofChange serialNamesSpec)) serialNamesCard

/-- THE SECOND FORM's CARD OF 'seesawlaw28.SerialNames'. -/
def serialNamesUptoCard : Claim7 := { stood := { row := serialNamesUptoRow, standIns := [], harness := (true, "3609fddb8c52adc89c34a671e01d4b4d85021e2317123e1780c535fa1107fd64"), looks := false }, kinds := [], alts := [], laidByText := true, laidKinds := [.funcs], laidTests := true, laidLooks := .later }
def SerialNamesUptoCardSaid : Prop := Claim7.holds Tryz.pinned (.plain (OpenSpec.upto serialNamesSpec)) serialNamesUptoCard
end Rows
end Go.Proofs.YtlmoemfddoedgaaGreatDoor
