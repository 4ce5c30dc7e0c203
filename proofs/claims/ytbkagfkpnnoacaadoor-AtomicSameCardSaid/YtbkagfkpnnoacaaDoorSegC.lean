/-
  Proved here: the tied card of the closed statement AtomicSame.
  Conditions: those that the given statement names, and no others.
-/
import Derived.Test.YtbkagfkpnnoacaaDoorSegR
import Derived.Test.YtbkagfkpnnoacaaDoorCards
import Derived.Test.YtbkagfkpnnoacaaDoorTie
import Derived.SevenTiedAt
namespace Go.Proofs.YtbkagfkpnnoacaaDoor.atomicSame
open Go
theorem card_holds : Rows.AtomicSameCardSaid :=
  Claim7.holds_tied_plain_at .later [] [.funcs] true (true, "4e91799dc8d4378e66214ae6601af84e47f431c61ccb123a39446a32bfa7f4c3") false
    WD (fun _ h => by cases h) (by kernel_rfl) (fun _ h => by cases h) atomicSame_row_tie rfl ⟨rfl, rfl⟩ (by kernel_rfl) rfl
    (fun f fn hf cj => by
      obtain rfl : f = 3 := Option.some.inj ((show Tryd.prog.funcNamed Rows.atomicSameRow.func = some 3 by kernel_rfl).symm.trans hf) |>.symm
      obtain rfl : fn = Tryd.f3 := (Option.some.inj (Tryd.func3.symm.trans cj)).symm
      exact ⟨by kernel_rfl, fun j t ht => by
        rw [Tryd.params3] at ht
        have hm : t ∈ ([22, 23, 23, 23] : List TypeId) := by simpa using Array.mem_of_getElem? ht
        have dJ : (([22, 23, 23, 23] : List TypeId).all fun u => !Tryd.prog.wantsStandIn u) = true := by kernel_rfl
        exact (show Tryd.prog.wantsStandIn t = false by simpa using List.all_eq_true.1 dJ t hm)⟩)
    (by kernel_rfl)
#print axioms card_holds
end Go.Proofs.YtbkagfkpnnoacaaDoor.atomicSame
