/-
  Proved here: the tied card of the closed statement AttemptSnapshot.
  Conditions: those that the given statement names, and no others.
-/
import Derived.Test.YthjiifomjmdjbaaGreatDoorSegR
import Derived.Test.YthjiifomjmdjbaaGreatDoorCards
import Derived.Test.YthjiifomjmdjbaaGreatDoorTie
import Derived.SevenTiedAt
namespace Go.Proofs.YthjiifomjmdjbaaGreatDoor.attemptSnapshot
open Go
theorem card_holds : Rows.AttemptSnapshotCardSaid :=
  Claim7.holds_tied_plain_at .later [] [.funcs] true (true, "6181e3a3710f7d6a70a2383c1e2253d9f7299f54a784bbbfaa8c6a856397dfea") false
    ahW (fun _ h => by cases h) (by kernel_rfl) (fun _ h => by cases h) attemptSnapshot_row_tie rfl ⟨rfl, rfl⟩ (by kernel_rfl) rfl
    (fun f fn hf cm => by
      obtain rfl : f = 3 := Option.some.inj ((show Tryz.prog.funcNamed Rows.attemptSnapshotRow.func = some 3 by kernel_rfl).symm.trans hf) |>.symm
      obtain rfl : fn = Tryz.f3 := (Option.some.inj (Tryz.func3.symm.trans cm)).symm
      exact ⟨by kernel_rfl, fun j t ht => by
        rw [Tryz.params3] at ht
        have hm : t ∈ ([22, 23, 3, 23] : List TypeId) := by simpa using Array.mem_of_getElem? ht
        have dK : (([22, 23, 3, 23] : List TypeId).all fun u => !Tryz.prog.wantsStandIn u) = true := by kernel_rfl
        exact (show Tryz.prog.wantsStandIn t = false by simpa using List.all_eq_true.1 dK t hm)⟩)
    (by kernel_rfl)
#print axioms card_holds
end Go.Proofs.YthjiifomjmdjbaaGreatDoor.attemptSnapshot
