/-
  Proved here: the tied card of the closed statement InterpNames.
  Conditions: those that the given statement names, and no others.
-/
import Derived.Test.YtppnjjipjdmfjaaGreatDoorSegR
import Derived.Test.YtppnjjipjdmfjaaGreatDoorCards
import Derived.Test.YtppnjjipjdmfjaaGreatDoorTie
import Derived.SevenTiedAt
namespace Go.Proofs.YtppnjjipjdmfjaaGreatDoor.interpNames
open Go
theorem card_holds : Rows.InterpNamesCardSaid :=
  Claim7.holds_tied_plain_at .later [] [.funcs] true (true, "831cebeaa6c9c1096993cdb6184f3571f95a93af80ab52286c3074779a7f346f") true
    over (fun _ h => by cases h) (by kernel_rfl) (fun _ h => by cases h) interpNames_row_tie rfl ⟨rfl, rfl⟩ (by kernel_rfl) rfl
    (fun f fn hf hfn => by
      obtain rfl : f = 3 := Option.some.inj ((show Tryz.prog.funcNamed Rows.interpNamesRow.func = some 3 by kernel_rfl).symm.trans hf) |>.symm
      obtain rfl : fn = Tryz.f3 := (Option.some.inj (Tryz.func3.symm.trans hfn)).symm
      exact ⟨by kernel_rfl, fun j t ht => by
        rw [Tryz.params3] at ht
        simp at ht⟩)
    (by kernel_rfl)
#print axioms card_holds
end Go.Proofs.YtppnjjipjdmfjaaGreatDoor.interpNames
