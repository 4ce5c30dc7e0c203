/-
  DERIVED. GIVEN WITH THE SEED: THE CARDS: each row of YtaooegdfpnfncaaGreatDoorRows.lean that lists a variable, with what it lists TIED to the program's text (the seventh form; the later family's looks); each row that meets fmt, with fmt's text TOLD by the authors' own Lean function (tested against real Go, not proved from fmt's source: count such statements apart). THE CARD IS WHAT COUNTS. Prove the row's statement (the work); the ties are given (YtaooegdfpnfncaaGreatDoorTie.lean); close each card by the builder's one call (the guide's Derived/Test/ToyasCard.lean, 'card_holds'). Laid BY PROGRAM, IN A SANDBOX (cutbox-door.mjs). By AI agents, Wed Nov 11 2026. No macro, syntax, notation, axiom, sorry.
-/
import Derived.Test.YtaooegdfpnfncaaGreatDoorRows
import GoSem.ClaimSeven
namespace Go.Proofs.YtaooegdfpnfncaaGreatDoor
namespace Rows

/-- THE TIED CARD OF 'seesawlaw16.AttemptRow'. -/
def attemptRowCard : Claim7 := { stood := { row := attemptRowRow, standIns := [], harness := (true, "475e69c98355e08623f9eaa02f99a9ef5c442835957c523e15a58dc157fee0b9"), looks := false }, kinds := [], alts := [], laidByText := true, laidKinds := [.funcs], laidTests := true, laidLooks := .later }
def AttemptRowCardSaid : Prop := Claim7.holds Tryz.pinned (.plain (OpenSpec.ofChange attemptRowSpec)) attemptRowCard

/-- THE SECOND FORM's CARD OF 'seesawlaw16.AttemptRow'. -/
def attemptRowUptoCard : Claim7 := { stood := { row := attemptRowUptoRow, standIns := [], harness := (true, "475e69c98355e08623f9eaa02f99a9ef5c442835957c523e15a58dc157fee0b9"), looks := false }, kinds := [], alts := [], laidByText := true, laidKinds := [.funcs], laidTests := true, laidLooks := .later }
def AttemptRowUptoCardSaid : Prop := Claim7.holds Tryz.pinned (.plain (OpenSpec.upto attemptRowSpec)) attemptRowUptoCard
end Rows
end Go.Proofs.YtaooegdfpnfncaaGreatDoor
