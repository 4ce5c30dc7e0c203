/-
  Proved here: the tied card of the closed statement RecordNames.
  Conditions: those that the given statement names, and no others.
-/
import Derived.Test.YtcjmdcndalcomaaGreatDoorSegR
import Derived.Test.YtcjmdcndalcomaaGreatDoorCards
import Derived.Test.YtcjmdcndalcomaaGreatDoorTie
import Derived.SevenTiedAt
namespace Go.Proofs.YtcjmdcndalcomaaGreatDoor.recordNames
open Go
theorem card_holds : Rows.RecordNamesCardSaid :=
  Claim7.holds_tied_plain_at .later [] [.funcs] true (true, "b7b6dcb175a3403663d699b8c949a36d7acd68923279b7fa4568fc5fa20a98ba") true
    over (fun _ h => by cases h) (by kernel_rfl) (fun _ h => by cases h) recordNames_row_tie rfl ⟨rfl, rfl⟩ (by kernel_rfl) rfl
    (fun f fn hf hfn => by
      obtain rfl : f = 3 := Option.some.inj ((show Tryz.prog.funcNamed Rows.recordNamesRow.func = some 3 by kernel_rfl).symm.trans hf) |>.symm
      obtain rfl : fn = Tryz.f3 := (Option.some.inj (Tryz.func3.symm.trans hfn)).symm
      exact ⟨by kernel_rfl, fun j t ht => by
        rw [Tryz.params3] at ht
        simp at ht⟩)
    (by kernel_rfl)
#print axioms card_holds
end Go.Proofs.YtcjmdcndalcomaaGreatDoor.recordNames
