/-
  Proved here: the tied card of the closed statement SchedNames.
  Conditions: those that the given statement names, and no others.
-/
import Derived.Test.YtliojfapnagkbaaGreatDoorSegR
import Derived.Test.YtliojfapnagkbaaGreatDoorCards
import Derived.Test.YtliojfapnagkbaaGreatDoorTie
import Derived.SevenTiedAt
namespace Go.Proofs.YtliojfapnagkbaaGreatDoor.schedNames
open Go
theorem card_holds : Rows.SchedNamesCardSaid :=
  Claim7.holds_tied_plain_at .later [] [.funcs] true (true, "05fb1b47869106f330cbfe5faeaa3e80f30a7a6d65658a18eeeb4aee3f69888f") true
    over (fun _ h => by cases h) (by kernel_rfl) (fun _ h => by cases h) schedNames_row_tie rfl ⟨rfl, rfl⟩ (by kernel_rfl) rfl
    (fun f fn hf hfn => by
      obtain rfl : f = 3 := Option.some.inj ((show Tryz.prog.funcNamed Rows.schedNamesRow.func = some 3 by kernel_rfl).symm.trans hf) |>.symm
      obtain rfl : fn = Tryz.f3 := (Option.some.inj (Tryz.func3.symm.trans hfn)).symm
      exact ⟨by kernel_rfl, fun j t ht => by
        rw [Tryz.params3] at ht
        simp at ht⟩)
    (by kernel_rfl)
#print axioms card_holds
end Go.Proofs.YtliojfapnagkbaaGreatDoor.schedNames
