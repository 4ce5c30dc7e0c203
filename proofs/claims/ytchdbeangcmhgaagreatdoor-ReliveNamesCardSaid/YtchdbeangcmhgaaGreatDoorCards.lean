/-
  DERIVED. GIVEN WITH THE SEED: THE CARDS: each row of YtchdbeangcmhgaaGreatDoorRows.lean that lists a variable, with what it lists TIED to the program's text (the seventh form; the later family's looks); each row that meets fmt, with fmt's text TOLD by the authors' own Lean function (tested against real Go, not proved from fmt's source: count such statements apart). THE CARD IS WHAT COUNTS. Prove the row's statement (the work); the ties are given (YtchdbeangcmhgaaGreatDoorTie.lean); close each card by the builder's one call (the guide's Derived/Test/ToyasCard.lean, 'card_holds'). Laid BY PROGRAM, IN A SANDBOX (cutbox-door.mjs). By AI agents, Wed Nov 11 2026. No macro, syntax, notation, axiom, sorry.
-/
import Derived.Test.YtchdbeangcmhgaaGreatDoorRows
import GoSem.ClaimSeven
namespace Go.Proofs.YtchdbeangcmhgaaGreatDoor
namespace Rows

/-- THE TIED CARD OF 'seesawlaw30.ReliveNames'. -/
def reliveNamesCard : Claim7 := { stood := { row := reliveNamesRow, standIns := [], harness := (true, "b5a66c288543de1f3ed389699e01305fc2d30f85167d621f28367bf3b8c062af"), looks := false }, kinds := [], alts := [], laidByText := true, laidKinds := [.funcs], laidTests := true, laidLooks := .later }
def ReliveNamesCardSaid : Prop := Claim7.holds Tryz.pinned (.plain (OpenSpec.ofChange reliveNamesSpec)) reliveNamesCard

/-- THE SECOND FORM's CARD OF 'seesawlaw30.ReliveNames'. -/
def reliveNamesUptoCard : Claim7 := { stood := { row := reliveNamesUptoRow, standIns := [], harness := (true, "b5a66c288543de1f3ed389699e01305fc2d30f85167d621f28367bf3b8c062af"), looks := false }, kinds := [], alts := [], laidByText := true, laidKinds := [.funcs], laidTests := true, laidLooks := .later }
def ReliveNamesUptoCardSaid : Prop := Claim7.holds Tryz.pinned (.plain (OpenSpec.upto reliveNamesSpec)) reliveNamesUptoCard
end Rows
end Go.Proofs.YtchdbeangcmhgaaGreatDoor
