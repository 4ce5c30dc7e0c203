/-
  DERIVED. GIVEN WITH THE SEED: THE CARDS: each row of YtbkagfkpnnoacaaDoorRows.lean that lists a variable, with what it lists TIED to the program's text (the seventh form; the later family's looks); each row that meets fmt, with fmt's text TOLD by the authors' own Lean function (tested against real Go, not proved from fmt's source: count such statements apart). THE CARD IS WHAT COUNTS. Prove the row's statement (the work); the ties are given (YtbkagfkpnnoacaaDoorTie.lean); close each card by the builder's one call (the guide's Derived/Test/ToyasCard.lean, 'card_holds'). Laid BY PROGRAM, IN A SANDBOX (cutbox-door.mjs). By AI agents, Wed Nov 11 2026. No macro, syntax, notation, axiom, sorry.
-/
import Derived.Test.YtbkagfkpnnoacaaDoorRows
import GoSem.ClaimSeven
namespace Go.Proofs.YtbkagfkpnnoacaaDoor
namespace Rows

/-- THE TIED CARD OF 'seesawlaw22.AtomicSame'. -/
def atomicSameCard : Claim7 := { stood := { row := atomicSameRow, standIns := [], harness := (true, "4e91799dc8d4378e66214ae6601af84e47f431c61ccb123a39446a32bfa7f4c3"), looks := false }, kinds := [], alts := [], laidByText := true, laidKinds := [.funcs], laidTests := true, laidLooks := .later }
def AtomicSameCardSaid : Prop := Claim7.holds Tryd.pinned (.plain (OpenSpec.ofChange atomicSameSpec)) atomicSameCard

/-- THE SECOND FORM's CARD OF 'seesawlaw22.AtomicSame'. -/
def atomicSameUptoCard : Claim7 := { stood := { row := atomicSameUptoRow, standIns := [], harness := (true, "4e91799dc8d4378e66214ae6601af84e47f431c61ccb123a39446a32bfa7f4c3"), looks := false }, kinds := [], alts := [], laidByText := true, laidKinds := [.funcs], laidTests := true, laidLooks := .later }
def AtomicSameUptoCardSaid : Prop := Claim7.holds Tryd.pinned (.plain (OpenSpec.upto atomicSameSpec)) atomicSameUptoCard
end Rows
end Go.Proofs.YtbkagfkpnnoacaaDoor
