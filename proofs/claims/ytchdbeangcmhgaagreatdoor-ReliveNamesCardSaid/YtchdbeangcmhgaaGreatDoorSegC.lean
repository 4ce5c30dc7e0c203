/-
  Proved here: the tied card of the closed statement ReliveNames.
  Conditions: those that the given statement names, and no others.
-/
import Derived.Test.YtchdbeangcmhgaaGreatDoorSegR
import Derived.Test.YtchdbeangcmhgaaGreatDoorCards
import Derived.Test.YtchdbeangcmhgaaGreatDoorTie
import Derived.SevenTiedAt
namespace Go.Proofs.YtchdbeangcmhgaaGreatDoor.reliveNames
open Go
theorem card_holds : Rows.ReliveNamesCardSaid :=
  Claim7.holds_tied_plain_at .later [] [.funcs] true (true, "b5a66c288543de1f3ed389699e01305fc2d30f85167d621f28367bf3b8c062af") false
    over (fun _ h => by cases h) (by kernel_rfl) (fun _ h => by cases h) reliveNames_row_tie rfl ⟨rfl, rfl⟩ (by kernel_rfl) rfl
    (fun f fn hf hfn => by
      obtain rfl : f = 3 := Option.some.inj ((show Tryz.prog.funcNamed Rows.reliveNamesRow.func = some 3 by kernel_rfl).symm.trans hf) |>.symm
      obtain rfl : fn = Tryz.f3 := (Option.some.inj (Tryz.func3.symm.trans hfn)).symm
      exact ⟨by kernel_rfl, fun j t ht => by
        rw [Tryz.params3] at ht
        simp at ht⟩)
    (by kernel_rfl)
#print axioms card_holds
end Go.Proofs.YtchdbeangcmhgaaGreatDoor.reliveNames
