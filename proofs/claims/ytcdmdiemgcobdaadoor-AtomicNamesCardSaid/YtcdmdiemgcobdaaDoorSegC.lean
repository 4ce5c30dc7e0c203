/-
  Proved here: the tied card of the closed statement AtomicNames.
  Conditions: those that the given statement names, and no others.
-/
import Derived.Test.YtcdmdiemgcobdaaDoorSegR
import Derived.Test.YtcdmdiemgcobdaaDoorCards
import Derived.Test.YtcdmdiemgcobdaaDoorTie
import Derived.SevenTiedAt
namespace Go.Proofs.YtcdmdiemgcobdaaDoor.atomicNames
open Go
theorem card_holds : Rows.AtomicNamesCardSaid :=
  Claim7.holds_tied_plain_at .later [] [.funcs] true (true, "025d82e2b918b4cb1fca256782dba8b08af62abee64266fc5a69d02a249eafee") false
    over (fun _ h => by cases h) (by kernel_rfl) (fun _ h => by cases h) atomicNames_row_tie rfl ⟨rfl, rfl⟩ (by kernel_rfl) rfl
    (fun f fn hf hfn => by
      obtain rfl : f = 3 := Option.some.inj ((show Tryd.prog.funcNamed Rows.atomicNamesRow.func = some 3 by kernel_rfl).symm.trans hf) |>.symm
      obtain rfl : fn = Tryd.f3 := (Option.some.inj (Tryd.func3.symm.trans hfn)).symm
      exact ⟨by kernel_rfl, fun j t ht => by
        rw [Tryd.params3] at ht
        simp at ht⟩)
    (by kernel_rfl)
#print axioms card_holds
end Go.Proofs.YtcdmdiemgcobdaaDoor.atomicNames
