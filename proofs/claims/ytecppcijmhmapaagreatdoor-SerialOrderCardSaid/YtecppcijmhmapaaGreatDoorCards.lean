/-
  DERIVED. GIVEN WITH THE SEED: THE CARDS: each row of YtecppcijmhmapaaGreatDoorRows.lean that lists a variable, with what it lists TIED to the program's text (the seventh form; the later family's looks); each row that meets fmt, with fmt's text TOLD by the authors' own Lean function (tested against real Go, not proved from fmt's source: count such statements apart). THE CARD IS WHAT COUNTS. Prove the row's statement (the work); the ties are given (YtecppcijmhmapaaGreatDoorTie.lean); close each card by the builder's one call (the guide's Derived/Test/ToyasCard.lean, 'card_holds'). Laid BY PROGRAM, IN A SANDBOX (cutbox-door.mjs). By AI agents, Wed Nov 11 2026. No macro, syntax, notation, axiom, sorry.
-/
import Derived.Test.YtecppcijmhmapaaGreatDoorRows
import GoSem.ClaimSeven
namespace Go.Proofs.YtecppcijmhmapaaGreatDoor
namespace Rows

/-- THE TIED CARD OF 'seesawlaw28.SerialOrder'. -/
def serialOrderCard : Claim7 := { stood := { row := serialOrderRow, standIns := [], harness := (true, "fe6a648dd951535da8cbdc9beaccef9ffc230587d7969408016cb157392cbfea"), looks := false }, kinds := [], alts := [], laidByText := true, laidKinds := [.funcs], laidTests := true, laidLooks := .later }
def SerialOrderCardSaid : Prop := Claim7.holds Tryz.pinned (.plain (OpenSpec.ofChange serialOrderSpec)) serialOrderCard

/-- THE SECOND FORM's CARD OF 'seesawlaw28.SerialOrder'. -/
def serialOrderUptoCard : Claim7 := { stood := { row := serialOrderUptoRow, standIns := [], harness := (true, "fe6a648dd951535da8cbdc9beaccef9ffc230587d7969408016cb157392cbfea"), looks := false }, kinds := [], alts := [], laidByText := true, laidKinds := [.funcs], laidTests := true, laidLooks := .later }
def SerialOrderUptoCardSaid : Prop := Claim7.holds Tryz.pinned (.plain (OpenSpec.upto serialOrderSpec)) serialOrderUptoCard
end Rows
end Go.Proofs.YtecppcijmhmapaaGreatDoor
