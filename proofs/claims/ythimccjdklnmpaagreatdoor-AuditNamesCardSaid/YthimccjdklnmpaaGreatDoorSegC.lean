/-
  Proved here: the tied card of the closed statement AuditNames.
  Conditions: those that the given statement names, and no others.
-/
import Derived.Test.YthimccjdklnmpaaGreatDoorSegR
import Derived.Test.YthimccjdklnmpaaGreatDoorSegG
import Derived.Test.YthimccjdklnmpaaGreatDoorCards
import Derived.Test.YthimccjdklnmpaaGreatDoorTie
import Derived.SevenTiedAt
namespace Go.Proofs.YthimccjdklnmpaaGreatDoor.auditNames
open Go
theorem cardFn : Tryz.prog.funcNamed Rows.auditNamesRow.func = some 3 := by kernel_rfl
theorem card_holds : Rows.AuditNamesCardSaid :=
  Claim7.holds_tied_plain_at .later [] [.data, .funcs, .funcs] true (true, "7b3fb8b93b70e6668a9af4b789da5105ef7f624d6b4bf23ac1f66caaa3d1b39e") true
    over (fun _ h => by cases h) (by as_aux_lemma => kernel_rfl) (fun _ h => by cases h) auditNames_row_tie rfl ⟨rfl, rfl⟩ (by as_aux_lemma => kernel_rfl) rfl
    (fun f fn hf hfn => by
      obtain rfl : f = 3 := Option.some.inj (cardFn.symm.trans hf) |>.symm
      obtain rfl : fn = Tryz.f3 := (Option.some.inj (Tryz.func3.symm.trans hfn)).symm
      exact ⟨by as_aux_lemma => kernel_rfl, fun j t ht => by
        rw [Tryz.params3] at ht
        simp at ht⟩)
    (goes_by noGoes rfl)
#print axioms card_holds
end Go.Proofs.YthimccjdklnmpaaGreatDoor.auditNames
