/-
  Proved here: the tied card of the closed statement ReliveRow.
  Conditions: those that the given statement names, and no others.
-/
import Derived.Test.YtodklcjkfnagpaaGreatDoorSegR
import Derived.Test.YtodklcjkfnagpaaGreatDoorCards
import Derived.Test.YtodklcjkfnagpaaGreatDoorTie
import Derived.SevenTiedAt
namespace Go.Proofs.YtodklcjkfnagpaaGreatDoor.reliveRow
open Go
theorem card_holds : Rows.ReliveRowCardSaid :=
  Claim7.holds_tied_plain_at .later [] [.funcs] true (true, "2540cac461651c401ea6a508f95f8cc54980abb56817b19081c3fa76e5c7da76") false
    P2 (fun _ h => by cases h) (by kernel_rfl) (fun _ h => by cases h) reliveRow_row_tie rfl ⟨rfl, rfl⟩ (by kernel_rfl) rfl
    (fun f fn hf cw => by
      obtain rfl : f = 3 := Option.some.inj ((show Tryz.prog.funcNamed Rows.reliveRowRow.func = some 3 by kernel_rfl).symm.trans hf) |>.symm
      obtain rfl : fn = Tryz.f3 := (Option.some.inj (Tryz.func3.symm.trans cw)).symm
      exact ⟨by kernel_rfl, fun j t ht => by
        rw [Tryz.params3] at ht
        have hm : t ∈ ([22, 23] : List TypeId) := by simpa using Array.mem_of_getElem? ht
        have fp : (([22, 23] : List TypeId).all fun u => !Tryz.prog.wantsStandIn u) = true := by kernel_rfl
        exact (show Tryz.prog.wantsStandIn t = false by simpa using List.all_eq_true.1 fp t hm)⟩)
    (by kernel_rfl)
#print axioms card_holds
end Go.Proofs.YtodklcjkfnagpaaGreatDoor.reliveRow
