/-
  Proved here: the tied card of the closed statement SerialOrder.
  Conditions: those that the given statement names, and no others.
-/
import Derived.Test.YtecppcijmhmapaaGreatDoorSegR
import Derived.Test.YtecppcijmhmapaaGreatDoorCards
import Derived.Test.YtecppcijmhmapaaGreatDoorTie
import Derived.SevenTiedAt
namespace Go.Proofs.YtecppcijmhmapaaGreatDoor.serialOrder
open Go
theorem card_holds : Rows.SerialOrderCardSaid :=
  Claim7.holds_tied_plain_at .later [] [.funcs] true (true, "fe6a648dd951535da8cbdc9beaccef9ffc230587d7969408016cb157392cbfea") false
    Sx (fun _ h => by cases h) (by kernel_rfl) (fun _ h => by cases h) serialOrder_row_tie rfl ⟨rfl, rfl⟩ (by kernel_rfl) rfl
    (fun f fn hf cI => by
      obtain rfl : f = 3 := Option.some.inj ((show Tryz.prog.funcNamed Rows.serialOrderRow.func = some 3 by kernel_rfl).symm.trans hf) |>.symm
      obtain rfl : fn = Tryz.f3 := (Option.some.inj (Tryz.func3.symm.trans cI)).symm
      exact ⟨by kernel_rfl, fun j t ht => by
        rw [Tryz.params3] at ht
        have hm : t ∈ ([22, 23] : List TypeId) := by simpa using Array.mem_of_getElem? ht
        have ga : (([22, 23] : List TypeId).all fun u => !Tryz.prog.wantsStandIn u) = true := by kernel_rfl
        exact (show Tryz.prog.wantsStandIn t = false by simpa using List.all_eq_true.1 ga t hm)⟩)
    (by kernel_rfl)
#print axioms card_holds
end Go.Proofs.YtecppcijmhmapaaGreatDoor.serialOrder
