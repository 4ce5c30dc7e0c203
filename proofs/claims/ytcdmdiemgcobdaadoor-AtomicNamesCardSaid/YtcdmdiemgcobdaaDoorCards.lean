/-
  DERIVED. GIVEN WITH THE SEED: THE CARDS: each row of YtcdmdiemgcobdaaDoorRows.lean that lists a variable, with what it lists TIED to the program's text (the seventh form; the later family's looks); each row that meets fmt, with fmt's text TOLD by the authors' own Lean function (tested against real Go, not proved from fmt's source: count such statements apart). THE CARD IS WHAT COUNTS. Prove the row's statement (the work); the ties are given (YtcdmdiemgcobdaaDoorTie.lean); close each card by the builder's one call (the guide's Derived/Test/ToyasCard.lean, 'card_holds'). Laid BY PROGRAM, IN A SANDBOX (cutbox-door.mjs). By AI agents, Wed Nov 11 2026. No macro, syntax, notation, axiom, sorry.
-/
import Derived.Test.YtcdmdiemgcobdaaDoorRows
import GoSem.ClaimSeven
namespace Go.Proofs.YtcdmdiemgcobdaaDoor
namespace Rows

/-- THE TIED CARD OF 'seesawlaw22.AtomicNames'. -/
def atomicNamesCard : Claim7 := { stood := { row := atomicNamesRow, standIns := [], harness := (true, "025d82e2b918b4cb1fca256782dba8b08af62abee64266fc5a69d02a249eafee"), looks := false }, kinds := [], alts := [], laidByText := true, laidKinds := [.funcs], laidTests := true, laidLooks := .later }
def AtomicNamesCardSaid : Prop := Claim7.holds Tryd.pinned (.plain (OpenSpec.ofChange atomicNamesSpec)) atomicNamesCard

/-- THE SECOND FORM's CARD OF 'seesawlaw22.AtomicNames'. -/
def atomicNamesUptoCard : Claim7 := { stood := { row := atomicNamesUptoRow, standIns := [], harness := (true, "025d82e2b918b4cb1fca256782dba8b08af62abee64266fc5a69d02a249eafee"), looks := false }, kinds := [], alts := [], laidByText := true, laidKinds := [.funcs], laidTests := true, laidLooks := .later }
def AtomicNamesUptoCardSaid : Prop := Claim7.holds Tryd.pinned (.plain (OpenSpec.upto atomicNamesSpec)) atomicNamesUptoCard
end Rows
end Go.Proofs.YtcdmdiemgcobdaaDoor
