/-
  Proved here: the tied card of the closed statement AtomicOne.
  Conditions: those that the given statement names, and no others.
-/
import Derived.Test.YtjcfiaeoopphoaaDoorSegR
import Derived.Test.YtjcfiaeoopphoaaDoorCards
import Derived.Test.YtjcfiaeoopphoaaDoorTie
import Derived.SevenTiedAt
namespace Go.Proofs.YtjcfiaeoopphoaaDoor.atomicOne
open Go
theorem card_holds : Rows.AtomicOneCardSaid :=
  Claim7.holds_tied_plain_at .later [] [.funcs] true (true, "ed809eeb4583cd80068ea9fe13f27ab120269d5659d6876c09ccc08948c29854") false
    YV (fun _ h => by cases h) (by kernel_rfl) (fun _ h => by cases h) atomicOne_row_tie rfl ⟨rfl, rfl⟩ (by kernel_rfl) rfl
    (fun f fn hf cv => by
      obtain rfl : f = 3 := Option.some.inj ((show Tryd.prog.funcNamed Rows.atomicOneRow.func = some 3 by kernel_rfl).symm.trans hf) |>.symm
      obtain rfl : fn = Tryd.f3 := (Option.some.inj (Tryd.func3.symm.trans cv)).symm
      exact ⟨by kernel_rfl, fun j t ht => by
        rw [Tryd.params3] at ht
        have hm : t ∈ ([25, 26] : List TypeId) := by simpa using Array.mem_of_getElem? ht
        have dL : (([25, 26] : List TypeId).all fun u => !Tryd.prog.wantsStandIn u) = true := by kernel_rfl
        exact (show Tryd.prog.wantsStandIn t = false by simpa using List.all_eq_true.1 dL t hm)⟩)
    (by kernel_rfl)
#print axioms card_holds
end Go.Proofs.YtjcfiaeoopphoaaDoor.atomicOne
