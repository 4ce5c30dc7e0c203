/-
  Proved here: the tied card of the closed statement DivergeNames.
  Conditions: those that the given statement names, and no others.
-/
import Derived.Test.YtfigabiiopcjoaaGreatDoorSegR
import Derived.Test.YtfigabiiopcjoaaGreatDoorCards
import Derived.Test.YtfigabiiopcjoaaGreatDoorTie
import Derived.SevenTiedAt
namespace Go.Proofs.YtfigabiiopcjoaaGreatDoor.divergeNames
open Go
theorem card_holds : Rows.DivergeNamesCardSaid :=
  Claim7.holds_tied_plain_at .later [] [.data, .data, .data, .funcs, .funcs] true (true, "d75ab33c0adad8b6ccb871eb8f5ecf7d4ce80e7f996508cabbe1de2de01ac240") true
    over (fun _ h => by cases h) (by kernel_rfl) (fun _ h => by cases h) divergeNames_row_tie rfl ⟨rfl, rfl⟩ (by kernel_rfl) rfl
    (fun f fn hf hfn => by
      obtain rfl : f = 3 := Option.some.inj ((show Tryz.prog.funcNamed Rows.divergeNamesRow.func = some 3 by kernel_rfl).symm.trans hf) |>.symm
      obtain rfl : fn = Tryz.f3 := (Option.some.inj (Tryz.func3.symm.trans hfn)).symm
      exact ⟨by kernel_rfl, fun j t ht => by
        rw [Tryz.params3] at ht
        simp at ht⟩)
    (by kernel_rfl)
#print axioms card_holds
end Go.Proofs.YtfigabiiopcjoaaGreatDoor.divergeNames
