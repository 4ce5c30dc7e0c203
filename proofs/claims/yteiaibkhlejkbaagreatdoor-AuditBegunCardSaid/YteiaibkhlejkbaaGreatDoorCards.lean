/-
  DERIVED. GIVEN WITH THE SEED: THE CARDS: each row of YteiaibkhlejkbaaGreatDoorRows.lean that lists a variable, with what it lists TIED to the program's text (the seventh form; the later family's looks); each row that meets fmt, with fmt's text TOLD by the authors' own Lean function (tested against real Go, not proved from fmt's source: count such statements apart). THE CARD IS WHAT COUNTS. Prove the row's statement (the work); the ties are given (YteiaibkhlejkbaaGreatDoorTie.lean); close each card by the builder's one call (the guide's Derived/Test/ToyasCard.lean, 'card_holds'). Laid BY PROGRAM, IN A SANDBOX (cutbox-door.mjs). By AI agents, Wed Nov 11 2026. No macro, syntax, notation, axiom, sorry.
-/
import Derived.Test.YteiaibkhlejkbaaGreatDoorRows
import GoSem.ClaimSeven
namespace Go.Proofs.YteiaibkhlejkbaaGreatDoor
namespace Rows

/-- THE TIED CARD OF 'seesawlaw31.AuditBegun'. -/
def auditBegunCard : Claim7 := { stood := { row := auditBegunRow, standIns := [], harness := (true, "393034bbd27394f706bbc53b3d79bfc9089609ec68595c369e8e995126faea7d"), looks := true }, kinds := [], alts := [], laidByText := true, laidKinds := [.data, .funcs, .funcs], laidTests := true, laidLooks := .later }
def AuditBegunCardSaid : Prop := Claim7.holds Tryz.pinned (.plain (OpenSpec.ofChange auditBegunSpec)) auditBegunCard

/-- THE SECOND FORM's CARD OF 'seesawlaw31.AuditBegun'. -/
def auditBegunUptoCard : Claim7 := { stood := { row := auditBegunUptoRow, standIns := [], harness := (true, "393034bbd27394f706bbc53b3d79bfc9089609ec68595c369e8e995126faea7d"), looks := true }, kinds := [], alts := [], laidByText := true, laidKinds := [.data, .funcs, .funcs], laidTests := true, laidLooks := .later }
def AuditBegunUptoCardSaid : Prop := Claim7.holds Tryz.pinned (.plain (OpenSpec.upto auditBegunSpec)) auditBegunUptoCard
end Rows
end Go.Proofs.YteiaibkhlejkbaaGreatDoor
