/-
  Proved here: the tied card of the closed statement AttemptSees.
  Conditions: those that the given statement names, and no others.
-/
import Derived.Test.YtfjgmdmfnjaoaaaGreatDoorSegR
import Derived.Test.YtfjgmdmfnjaoaaaGreatDoorCards
import Derived.Test.YtfjgmdmfnjaoaaaGreatDoorTie
import Derived.SevenTiedAt
namespace Go.Proofs.YtfjgmdmfnjaoaaaGreatDoor.attemptSees
open Go
theorem card_holds : Rows.AttemptSeesCardSaid :=
  Claim7.holds_tied_plain_at .later [] [.funcs] true (true, "ed4659a7acd0a77900fc5795db720454c048a144dfae1f309b125c4063ac63ae") false
    aiH (fun _ h => by cases h) (by kernel_rfl) (fun _ h => by cases h) attemptSees_row_tie rfl ⟨rfl, rfl⟩ (by kernel_rfl) rfl
    (fun f fn hf cq => by
      obtain rfl : f = 3 := Option.some.inj ((show Tryz.prog.funcNamed Rows.attemptSeesRow.func = some 3 by kernel_rfl).symm.trans hf) |>.symm
      obtain rfl : fn = Tryz.f3 := (Option.some.inj (Tryz.func3.symm.trans cq)).symm
      exact ⟨by kernel_rfl, fun j t ht => by
        rw [Tryz.params3] at ht
        have hm : t ∈ ([22, 23, 3, 23, 24] : List TypeId) := by simpa using Array.mem_of_getElem? ht
        have dM : (([22, 23, 3, 23, 24] : List TypeId).all fun u => !Tryz.prog.wantsStandIn u) = true := by kernel_rfl
        exact (show Tryz.prog.wantsStandIn t = false by simpa using List.all_eq_true.1 dM t hm)⟩)
    (by kernel_rfl)
#print axioms card_holds
end Go.Proofs.YtfjgmdmfnjaoaaaGreatDoor.attemptSees
