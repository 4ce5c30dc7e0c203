/-
  DERIVED. GIVEN WITH THE SEED: THE CARDS: each row of YtjcfiaeoopphoaaDoorRows.lean that lists a variable, with what it lists TIED to the program's text (the seventh form; the later family's looks); each row that meets fmt, with fmt's text TOLD by the authors' own Lean function (tested against real Go, not proved from fmt's source: count such statements apart). THE CARD IS WHAT COUNTS. Prove the row's statement (the work); the ties are given (YtjcfiaeoopphoaaDoorTie.lean); close each card by the builder's one call (the guide's Derived/Test/ToyasCard.lean, 'card_holds'). Laid BY PROGRAM, IN A SANDBOX (cutbox-door.mjs). By AI agents, Wed Nov 11 2026. No macro, syntax, notation, axiom, sorry.
-/
import Derived.Test.YtjcfiaeoopphoaaDoorRows
import GoSem.ClaimSeven
namespace Go.Proofs.YtjcfiaeoopphoaaDoor
namespace Rows

/-- THE TIED CARD OF 'seesawlaw22.AtomicOne'. -/
def atomicOneCard : Claim7 := { stood := { row := atomicOneRow, standIns := [], harness := (true, "ed809eeb4583cd80068ea9fe13f27ab120269d5659d6876c09ccc08948c29854"), looks := false }, kinds := [], alts := [], laidByText := true, laidKinds := [.funcs], laidTests := true, laidLooks := .later }
def AtomicOneCardSaid : Prop := Claim7.holds Tryd.pinned (.plain (OpenSpec.ofChange atomicOneSpec)) atomicOneCard

/-- THE SECOND FORM's CARD OF 'seesawlaw22.AtomicOne'. -/
def atomicOneUptoCard : Claim7 := { stood := { row := atomicOneUptoRow, standIns := [], harness := (true, "ed809eeb4583cd80068ea9fe13f27ab120269d5659d6876c09ccc08948c29854"), looks := false }, kinds := [], alts := [], laidByText := true, laidKinds := [.funcs], laidTests := true, laidLooks := .later }
def AtomicOneUptoCardSaid : Prop := Claim7.holds Tryd.pinned (.plain (OpenSpec.upto atomicOneSpec)) atomicOneUptoCard
end Rows
end Go.Proofs.YtjcfiaeoopphoaaDoor
