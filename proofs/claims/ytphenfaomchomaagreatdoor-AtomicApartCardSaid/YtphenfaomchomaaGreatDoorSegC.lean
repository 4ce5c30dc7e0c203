/-
  Proved here: the tied card of the closed statement AtomicApart.
  Conditions: those that the given statement names, and no others.
-/
import Derived.Test.YtphenfaomchomaaGreatDoorSegR
import Derived.Test.YtphenfaomchomaaGreatDoorCards
import Derived.Test.YtphenfaomchomaaGreatDoorTie
import Derived.SevenTiedAt
namespace Go.Proofs.YtphenfaomchomaaGreatDoor.atomicApart
open Go
theorem card_holds : Rows.AtomicApartCardSaid :=
  Claim7.holds_tied_plain_at .later [] [.funcs] true (true, "dcb111fce5f4a068a7a675bb1fd279bedc83621ec55f697ce2afd71548dbc39c") false
    WS (fun _ h => by cases h) (by kernel_rfl) (fun _ h => by cases h) atomicApart_row_tie rfl ⟨rfl, rfl⟩ (by kernel_rfl) rfl
    (fun f fn hf cm => by
      obtain rfl : f = 3 := Option.some.inj ((show Tryz.prog.funcNamed Rows.atomicApartRow.func = some 3 by kernel_rfl).symm.trans hf) |>.symm
      obtain rfl : fn = Tryz.f3 := (Option.some.inj (Tryz.func3.symm.trans cm)).symm
      exact ⟨by kernel_rfl, fun j t ht => by
        rw [Tryz.params3] at ht
        have hm : t ∈ ([22, 22, 23] : List TypeId) := by simpa using Array.mem_of_getElem? ht
        have dL : (([22, 22, 23] : List TypeId).all fun u => !Tryz.prog.wantsStandIn u) = true := by kernel_rfl
        exact (show Tryz.prog.wantsStandIn t = false by simpa using List.all_eq_true.1 dL t hm)⟩)
    (by kernel_rfl)
#print axioms card_holds
end Go.Proofs.YtphenfaomchomaaGreatDoor.atomicApart
