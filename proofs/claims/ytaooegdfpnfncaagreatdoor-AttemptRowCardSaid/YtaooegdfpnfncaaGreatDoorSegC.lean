/-
  Proved here: the tied card of the closed statement AttemptRow.
  Conditions: those that the given statement names, and no others.
-/
import Derived.Test.YtaooegdfpnfncaaGreatDoorSegR
import Derived.Test.YtaooegdfpnfncaaGreatDoorCards
import Derived.Test.YtaooegdfpnfncaaGreatDoorTie
import Derived.SevenTiedAt
namespace Go.Proofs.YtaooegdfpnfncaaGreatDoor.attemptRow
open Go
theorem card_holds : Rows.AttemptRowCardSaid :=
  Claim7.holds_tied_plain_at .later [] [.funcs] true (true, "475e69c98355e08623f9eaa02f99a9ef5c442835957c523e15a58dc157fee0b9") false
    Yg (fun _ h => by cases h) (by kernel_rfl) (fun _ h => by cases h) attemptRow_row_tie rfl ⟨rfl, rfl⟩ (by kernel_rfl) rfl
    (fun f fn hf ch => by
      obtain rfl : f = 3 := Option.some.inj ((show Tryz.prog.funcNamed Rows.attemptRowRow.func = some 3 by kernel_rfl).symm.trans hf) |>.symm
      obtain rfl : fn = Tryz.f3 := (Option.some.inj (Tryz.func3.symm.trans ch)).symm
      exact ⟨by kernel_rfl, fun j t ht => by
        rw [Tryz.params3] at ht
        have hm : t ∈ ([22, 23, 3, 23, 24] : List TypeId) := by simpa using Array.mem_of_getElem? ht
        have dE : (([22, 23, 3, 23, 24] : List TypeId).all fun u => !Tryz.prog.wantsStandIn u) = true := by kernel_rfl
        exact (show Tryz.prog.wantsStandIn t = false by simpa using List.all_eq_true.1 dE t hm)⟩)
    (by kernel_rfl)
#print axioms card_holds
end Go.Proofs.YtaooegdfpnfncaaGreatDoor.attemptRow
