/-
  DERIVED. GIVEN WITH THE SEED: THE CARDS: each row of YtphenfaomchomaaGreatDoorRows.lean that lists a variable, with what it lists TIED to the program's text (the seventh form; the later family's looks); each row that meets fmt, with fmt's text TOLD by the authors' own Lean function (tested against real Go, not proved from fmt's source: count such statements apart). THE CARD IS WHAT COUNTS. Prove the row's statement (the work); the ties are given (YtphenfaomchomaaGreatDoorTie.lean); close each card by the builder's one call (the guide's Derived/Test/ToyasCard.lean, 'card_holds'). Laid BY PROGRAM, IN A SANDBOX (cutbox-door.mjs). By AI agents, Wed Nov 11 2026. No macro, syntax, notation, axiom, sorry.
-/
import Derived.Test.YtphenfaomchomaaGreatDoorRows
import GoSem.ClaimSeven
namespace Go.Proofs.YtphenfaomchomaaGreatDoor
namespace Rows

/-- THE TIED CARD OF 'seesawlaw22.AtomicApart'. -/
def atomicApartCard : Claim7 := { stood := { row := atomicApartRow, standIns := [], harness := (true, "dcb111fce5f4a068a7a675bb1fd279bedc83621ec55f697ce2afd71548dbc39c"), looks := false }, kinds := [], alts := [], laidByText := true, laidKinds := [.funcs], laidTests := true, laidLooks := .later }
def AtomicApartCardSaid : Prop := Claim7.holds Tryz.pinned (.plain (OpenSpec.ofChange atomicApartSpec)) atomicApartCard

/-- THE SECOND FORM's CARD OF 'seesawlaw22.AtomicApart'. -/
def atomicApartUptoCard : Claim7 := { stood := { row := atomicApartUptoRow, standIns := [], harness := (true, "dcb111fce5f4a068a7a675bb1fd279bedc83621ec55f697ce2afd71548dbc39c"), looks := false }, kinds := [], alts := [], laidByText := true, laidKinds := [.funcs], laidTests := true, laidLooks := .later }
def AtomicApartUptoCardSaid : Prop := Claim7.holds Tryz.pinned (.plain (OpenSpec.upto atomicApartSpec)) atomicApartUptoCard
end Rows
end Go.Proofs.YtphenfaomchomaaGreatDoor
