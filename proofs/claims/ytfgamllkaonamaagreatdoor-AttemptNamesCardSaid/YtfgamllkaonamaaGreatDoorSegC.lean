/-
  Proved here: the tied card of the closed statement AttemptNames.
  Conditions: those that the given statement names, and no others.
-/
import Derived.Test.YtfgamllkaonamaaGreatDoorSegR
import Derived.Test.YtfgamllkaonamaaGreatDoorCards
import Derived.Test.YtfgamllkaonamaaGreatDoorTie
import Derived.SevenTiedAt
namespace Go.Proofs.YtfgamllkaonamaaGreatDoor.attemptNames
open Go
theorem card_holds : Rows.AttemptNamesCardSaid :=
  Claim7.holds_tied_plain_at .later [] [.funcs] true (true, "ca8505ed7bbde9fae0bdc9f64e238f3a2f597e272778e23d18ec22e0ee2d7d30") true
    over (fun _ h => by cases h) (by kernel_rfl) (fun _ h => by cases h) attemptNames_row_tie rfl ⟨rfl, rfl⟩ (by kernel_rfl) rfl
    (fun f fn hf hfn => by
      obtain rfl : f = 3 := Option.some.inj ((show Tryz.prog.funcNamed Rows.attemptNamesRow.func = some 3 by kernel_rfl).symm.trans hf) |>.symm
      obtain rfl : fn = Tryz.f3 := (Option.some.inj (Tryz.func3.symm.trans hfn)).symm
      exact ⟨by kernel_rfl, fun j t ht => by
        rw [Tryz.params3] at ht
        simp at ht⟩)
    (by kernel_rfl)
#print axioms card_holds
end Go.Proofs.YtfgamllkaonamaaGreatDoor.attemptNames
