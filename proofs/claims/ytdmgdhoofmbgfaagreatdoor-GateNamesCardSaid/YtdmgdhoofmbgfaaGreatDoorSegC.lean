/-
  Proved here: the tied card of the closed statement GateNames.
  Conditions: those that the given statement names, and no others.
-/
import Derived.Test.YtdmgdhoofmbgfaaGreatDoorSegR
import Derived.Test.YtdmgdhoofmbgfaaGreatDoorCards
import Derived.Test.YtdmgdhoofmbgfaaGreatDoorTie
import Derived.SevenTiedAt
namespace Go.Proofs.YtdmgdhoofmbgfaaGreatDoor.gateNames
open Go
theorem card_holds : Rows.GateNamesCardSaid :=
  Claim7.holds_tied_plain_at .later [] [.data, .funcs, .funcs] true (true, "99f83e8dcaf98954c2b0517d85660d8aee32bde7895e627e3d530e8b61db1e06") true
    over (fun _ h => by cases h) (by kernel_rfl) (fun _ h => by cases h) gateNames_row_tie rfl ⟨rfl, rfl⟩ (by kernel_rfl) rfl
    (fun f fn hf hfn => by
      obtain rfl : f = 3 := Option.some.inj ((show Tryz.prog.funcNamed "seesaw/seesawlaw23.GateNames" = some 3 by kernel_rfl).symm.trans hf) |>.symm
      obtain rfl : fn = Tryz.f3 := (Option.some.inj (Tryz.func3.symm.trans hfn)).symm
      exact ⟨by kernel_rfl, fun j t ht => by
        rw [Tryz.params3] at ht
        simp at ht⟩)
    (by kernel_rfl)
#print axioms card_holds
end Go.Proofs.YtdmgdhoofmbgfaaGreatDoor.gateNames
