/-
  Proved here: the tied card of the closed statement AtomicJust.
  Conditions: those that the given statement names, and no others.
-/
import Derived.Test.YthbfipeeifofpaaGreatDoorSegR
import Derived.Test.YthbfipeeifofpaaGreatDoorCards
import Derived.Test.YthbfipeeifofpaaGreatDoorTie
import Derived.SevenTiedAt
namespace Go.Proofs.YthbfipeeifofpaaGreatDoor.atomicJust
open Go
theorem card_holds : Rows.AtomicJustCardSaid :=
  Claim7.holds_tied_plain_at .later [] [.funcs] true (true, "f8b2d221c9ef320b1ba0e2c803ae472e74b05d70073d4b6394e090445298c778") false
    Ws (fun _ h => by cases h) (by kernel_rfl) (fun _ h => by cases h) atomicJust_row_tie rfl ⟨rfl, rfl⟩ (by kernel_rfl) rfl
    (fun f fn hf cj => by
      obtain rfl : f = 3 := Option.some.inj ((show Tryz.prog.funcNamed Rows.atomicJustRow.func = some 3 by kernel_rfl).symm.trans hf) |>.symm
      obtain rfl : fn = Tryz.f3 := (Option.some.inj (Tryz.func3.symm.trans cj)).symm
      exact ⟨by kernel_rfl, fun j t ht => by
        rw [Tryz.params3] at ht
        have hm : t ∈ ([22, 23, 23] : List TypeId) := by simpa using Array.mem_of_getElem? ht
        have dJ : (([22, 23, 23] : List TypeId).all fun u => !Tryz.prog.wantsStandIn u) = true := by kernel_rfl
        exact (show Tryz.prog.wantsStandIn t = false by simpa using List.all_eq_true.1 dJ t hm)⟩)
    (by kernel_rfl)
#print axioms card_holds
end Go.Proofs.YthbfipeeifofpaaGreatDoor.atomicJust
