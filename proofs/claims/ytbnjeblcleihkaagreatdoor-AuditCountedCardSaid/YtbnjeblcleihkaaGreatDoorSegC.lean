/-
  Proved here: the tied card of the closed statement AuditCounted.
  Conditions: those that the given statement names, and no others.
-/
import Derived.Test.YtbnjeblcleihkaaGreatDoorSegR
import Derived.Test.YtbnjeblcleihkaaGreatDoorSegG
import Derived.Test.YtbnjeblcleihkaaGreatDoorCards
import Derived.Test.YtbnjeblcleihkaaGreatDoorTie
import Derived.SevenTiedAt
namespace Go.Proofs.YtbnjeblcleihkaaGreatDoor.auditCounted
open Go
theorem cardFn : Tryz.prog.funcNamed Rows.auditCountedRow.func = some 3 := by kernel_rfl
theorem card_holds : Rows.AuditCountedCardSaid :=
  Claim7.holds_tied_plain_at .later [] [.data, .funcs, .funcs] true (true, "832ca0078c1a92d8e00a1d8cbbf3e41e7bc3d49ad99f7dc9e84f3802542d4a62") true
    over (fun _ h => by cases h) (by as_aux_lemma => kernel_rfl) (fun _ h => by cases h) auditCounted_row_tie rfl ⟨rfl, rfl⟩ (by as_aux_lemma => kernel_rfl) rfl
    (fun f fn hf hfn => by
      obtain rfl : f = 3 := Option.some.inj (cardFn.symm.trans hf) |>.symm
      obtain rfl : fn = Tryz.f3 := (Option.some.inj (Tryz.func3.symm.trans hfn)).symm
      exact ⟨by as_aux_lemma => kernel_rfl, fun j t ht => by
        rw [Tryz.params3] at ht
        have hm : t ∈ [24] := by simpa using Array.mem_of_getElem? ht
        have hall : ([24].all fun u => !Tryz.prog.wantsStandIn u) = true := by kernel_rfl
        exact (show Tryz.prog.wantsStandIn t = false by simpa using List.all_eq_true.1 hall t hm)⟩)
    (goes_by noGoes rfl)
#print axioms card_holds
end Go.Proofs.YtbnjeblcleihkaaGreatDoor.auditCounted
