/-
  Proved here: the tied card of the closed statement DivergeTexts.
  Conditions: those that the given statement names, and no others.
-/
import Derived.Test.YtadcegpdegpnmaaGreatDoorSegR
import Derived.Test.YtadcegpdegpnmaaGreatDoorSegG
import Derived.Test.YtadcegpdegpnmaaGreatDoorCards
import Derived.Test.YtadcegpdegpnmaaGreatDoorTie
import Derived.SevenTiedAt
namespace Go.Proofs.YtadcegpdegpnmaaGreatDoor.divergeTexts
open Go
theorem cardFn : Tryz.prog.funcNamed Rows.divergeTextsRow.func = some 3 := by kernel_rfl
theorem card_holds : Rows.DivergeTextsCardSaid :=
  Claim7.holds_tied_plain_at .later [] [.data, .data, .data, .funcs, .data, .funcs] true (true, "31f2e70e9ac7537119278bfb2eddce5366409f2b33aa2a3f116278a26c7e58b3") true
    over (fun _ h => by cases h) (by as_aux_lemma => kernel_rfl) (fun _ h => by cases h) divergeTexts_row_tie rfl ⟨rfl, rfl⟩ (by as_aux_lemma => kernel_rfl) rfl
    (fun f fn hf hfn => by
      obtain rfl : f = 3 := Option.some.inj (cardFn.symm.trans hf) |>.symm
      obtain rfl : fn = Tryz.f3 := (Option.some.inj (Tryz.func3.symm.trans hfn)).symm
      exact ⟨by as_aux_lemma => kernel_rfl, fun j t ht => by
        rw [Tryz.params3] at ht
        have hm : t ∈ [25] := by simpa using Array.mem_of_getElem? ht
        have hall : ([25].all fun u => !Tryz.prog.wantsStandIn u) = true := by kernel_rfl
        exact (show Tryz.prog.wantsStandIn t = false by simpa using List.all_eq_true.1 hall t hm)⟩)
    (goes_by noGoes rfl)
#print axioms card_holds
end Go.Proofs.YtadcegpdegpnmaaGreatDoor.divergeTexts
