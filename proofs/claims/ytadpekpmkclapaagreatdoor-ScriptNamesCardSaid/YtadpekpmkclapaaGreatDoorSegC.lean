/-
  Proved here: the tied card of the closed statement ScriptNames.
  Conditions: those that the given statement names, and no others.
-/
import Derived.Test.YtadpekpmkclapaaGreatDoorSegR
import Derived.Test.YtadpekpmkclapaaGreatDoorSegG
import Derived.Test.YtadpekpmkclapaaGreatDoorCards
import Derived.Test.YtadpekpmkclapaaGreatDoorTie
import Derived.SevenTiedAt
namespace Go.Proofs.YtadpekpmkclapaaGreatDoor.scriptNames
open Go
theorem cardFn : Tryz.prog.funcNamed Rows.scriptNamesRow.func = some 3 := by kernel_rfl
theorem card_holds : Rows.ScriptNamesCardSaid :=
  Claim7.holds_tied_plain_at .later [] [.data, .funcs, .funcs] true (true, "fb0dd26ef488dcfbd29135a6ec0542a142f3d121e73e2e65953cfe9be3004feb") true
    over (fun _ h => by cases h) (by as_aux_lemma => kernel_rfl) (fun _ h => by cases h) scriptNames_row_tie rfl ⟨rfl, rfl⟩ (by as_aux_lemma => kernel_rfl) rfl
    (fun f fn hf hfn => by
      obtain rfl : f = 3 := Option.some.inj (cardFn.symm.trans hf) |>.symm
      obtain rfl : fn = Tryz.f3 := (Option.some.inj (Tryz.func3.symm.trans hfn)).symm
      exact ⟨by as_aux_lemma => kernel_rfl, fun j t ht => by
        rw [Tryz.params3] at ht
        simp at ht⟩)
    (goes_by noGoes rfl)
#print axioms card_holds
end Go.Proofs.YtadpekpmkclapaaGreatDoor.scriptNames
