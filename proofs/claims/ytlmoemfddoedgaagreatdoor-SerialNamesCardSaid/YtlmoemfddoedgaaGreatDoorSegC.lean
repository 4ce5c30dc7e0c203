/-
  Proved here: the tied card of the closed statement SerialNames.
  Conditions: those that the given statement names, and no others.
-/
import Derived.Test.YtlmoemfddoedgaaGreatDoorSegR
import Derived.Test.YtlmoemfddoedgaaGreatDoorCards
import Derived.Test.YtlmoemfddoedgaaGreatDoorTie
import Derived.SevenTiedAt
namespace Go.Proofs.YtlmoemfddoedgaaGreatDoor.serialNames
open Go
theorem card_holds : Rows.SerialNamesCardSaid :=
  Claim7.holds_tied_plain_at .later [] [.funcs] true (true, "3609fddb8c52adc89c34a671e01d4b4d85021e2317123e1780c535fa1107fd64") false
    over (fun _ h => by cases h) (by kernel_rfl) (fun _ h => by cases h) serialNames_row_tie rfl ⟨rfl, rfl⟩ (by kernel_rfl) rfl
    (fun f fn hf hfn => by
      obtain rfl : f = 3 := Option.some.inj ((show Tryz.prog.funcNamed Rows.serialNamesRow.func = some 3 by kernel_rfl).symm.trans hf) |>.symm
      obtain rfl : fn = Tryz.f3 := (Option.some.inj (Tryz.func3.symm.trans hfn)).symm
      exact ⟨by kernel_rfl, fun j t ht => by
        rw [Tryz.params3] at ht
        simp at ht⟩)
    (by kernel_rfl)
#print axioms card_holds
end Go.Proofs.YtlmoemfddoedgaaGreatDoor.serialNames
