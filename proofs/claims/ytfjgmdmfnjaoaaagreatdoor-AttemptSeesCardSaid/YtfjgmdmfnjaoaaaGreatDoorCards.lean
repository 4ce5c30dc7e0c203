/-
  DERIVED. GIVEN WITH THE SEED: THE CARDS: each row of YtfjgmdmfnjaoaaaGreatDoorRows.lean that lists a variable, with what it lists TIED to the program's text (the seventh form; the later family's looks); each row that meets fmt, with fmt's text TOLD by the authors' own Lean function (tested against real Go, not proved from fmt's source: count such statements apart). THE CARD IS WHAT COUNTS. Prove the row's statement (the work); the ties are given (YtfjgmdmfnjaoaaaGreatDoorTie.lean); close each card by the builder's one call (the guide's Derived/Test/ToyasCard.lean, 'card_holds'). Laid BY PROGRAM, IN A SANDBOX (cutbox-door.mjs). By AI agents, Wed Nov 11 2026. No macro, syntax, notation, axiom, sorry.
-/
import Derived.Test.YtfjgmdmfnjaoaaaGreatDoorRows
import GoSem.ClaimSeven
namespace Go.Proofs.YtfjgmdmfnjaoaaaGreatDoor
namespace Rows

/-- THE TIED CARD OF 'seesawlaw16.AttemptSees'. -/
def attemptSeesCard : Claim7 := { stood := { row := attemptSeesRow, standIns := [], harness := (true, "ed4659a7acd0a77900fc5795db720454c048a144dfae1f309b125c4063ac63ae"), looks := false }, kinds := [], alts := [], laidByText := true, laidKinds := [.funcs], laidTests := true, laidLooks := .later }
def AttemptSeesCardSaid : Prop := Claim7.holds Tryz.pinned (.plain (OpenSpec.ofChange attemptSeesSpec)) attemptSeesCard

/-- THE SECOND FORM's CARD OF 'seesawlaw16.AttemptSees'. -/
def attemptSeesUptoCard : Claim7 := { stood := { row := attemptSeesUptoRow, standIns := [], harness := (true, "ed4659a7acd0a77900fc5795db720454c048a144dfae1f309b125c4063ac63ae"), looks := false }, kinds := [], alts := [], laidByText := true, laidKinds := [.funcs], laidTests := true, laidLooks := .later }
def AttemptSeesUptoCardSaid : Prop := Claim7.holds Tryz.pinned (.plain (OpenSpec.upto attemptSeesSpec)) attemptSeesUptoCard
end Rows
end Go.Proofs.YtfjgmdmfnjaoaaaGreatDoor
