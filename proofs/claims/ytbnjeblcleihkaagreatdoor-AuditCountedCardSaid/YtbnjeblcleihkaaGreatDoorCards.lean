/-
  DERIVED. GIVEN WITH THE SEED: THE CARDS: each row of YtbnjeblcleihkaaGreatDoorRows.lean that lists a variable, with what it lists TIED to the program's text (the seventh form; the later family's looks); each row that meets fmt, with fmt's text TOLD by the authors' own Lean function (tested against real Go, not proved from fmt's source: count such statements apart). THE CARD IS WHAT COUNTS. Prove the row's statement (the work); the ties are given (YtbnjeblcleihkaaGreatDoorTie.lean); close each card by the builder's one call (the guide's Derived/Test/ToyasCard.lean, 'card_holds'). Laid BY PROGRAM, IN A SANDBOX (cutbox-door.mjs). By AI agents, Wed Nov 11 2026. No macro, syntax, notation, axiom, sorry.
-/
import Derived.Test.YtbnjeblcleihkaaGreatDoorRows
import GoSem.ClaimSeven
namespace Go.Proofs.YtbnjeblcleihkaaGreatDoor
namespace Rows

/-- THE TIED CARD OF 'seesawlaw31.AuditCounted'. -/
def auditCountedCard : Claim7 := { stood := { row := auditCountedRow, standIns := [], harness := (true, "832ca0078c1a92d8e00a1d8cbbf3e41e7bc3d49ad99f7dc9e84f3802542d4a62"), looks := true }, kinds := [], alts := [], laidByText := true, laidKinds := [.data, .funcs, .funcs], laidTests := true, laidLooks := .later }
def AuditCountedCardSaid : Prop := Claim7.holds Tryz.pinned (.plain (OpenSpec.ofChange auditCountedSpec)) auditCountedCard

/-- THE SECOND FORM's CARD OF 'seesawlaw31.AuditCounted'. -/
def auditCountedUptoCard : Claim7 := { stood := { row := auditCountedUptoRow, standIns := [], harness := (true, "832ca0078c1a92d8e00a1d8cbbf3e41e7bc3d49ad99f7dc9e84f3802542d4a62"), looks := true }, kinds := [], alts := [], laidByText := true, laidKinds := [.data, .funcs, .funcs], laidTests := true, laidLooks := .later }
def AuditCountedUptoCardSaid : Prop := Claim7.holds Tryz.pinned (.plain (OpenSpec.upto auditCountedSpec)) auditCountedUptoCard
end Rows
end Go.Proofs.YtbnjeblcleihkaaGreatDoor
