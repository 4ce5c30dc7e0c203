/-
  Proved here: the tied card of the closed statement ThreadNames.
  Conditions: those that the given statement names, and no others.
-/
import Derived.Test.YtpillplddmioeaaGreatDoorSegR
import Derived.Test.YtpillplddmioeaaGreatDoorCards
import Derived.Test.YtpillplddmioeaaGreatDoorTie
import Derived.SevenTiedAt
namespace Go.Proofs.YtpillplddmioeaaGreatDoor.threadNames
open Go
theorem card_holds : Rows.ThreadNamesCardSaid :=
  Claim7.holds_tied_plain_at .later [] [.funcs] true (true, "a2b44db25642642daf4da75430879eec36abaf13681eb3608506e5d0607c73a4") true
    over (fun _ h => by cases h) (by kernel_rfl) (fun _ h => by cases h) threadNames_row_tie rfl ⟨rfl, rfl⟩ (by kernel_rfl) rfl
    (fun f fn hf hfn => by
      obtain rfl : f = 3 := Option.some.inj ((show Tryz.prog.funcNamed Rows.threadNamesRow.func = some 3 by kernel_rfl).symm.trans hf) |>.symm
      obtain rfl : fn = Tryz.f3 := (Option.some.inj (Tryz.func3.symm.trans hfn)).symm
      exact ⟨by kernel_rfl, fun j t ht => by
        rw [Tryz.params3] at ht
        simp at ht⟩)
    (by kernel_rfl)
#print axioms card_holds
end Go.Proofs.YtpillplddmioeaaGreatDoor.threadNames
