/-
  Proved here: the tied card of the closed statement AuditBegun.
  Conditions: those that the given statement names, and no others.
-/
import Derived.Test.YteiaibkhlejkbaaGreatDoorSegR
import Derived.Test.YteiaibkhlejkbaaGreatDoorSegG
import Derived.Test.YteiaibkhlejkbaaGreatDoorCards
import Derived.Test.YteiaibkhlejkbaaGreatDoorTie
import Derived.SevenTiedAt
namespace Go.Proofs.YteiaibkhlejkbaaGreatDoor.auditBegun
open Go
theorem cardFn : Tryz.prog.funcNamed Rows.auditBegunRow.func = some 3 := by kernel_rfl
theorem card_holds : Rows.AuditBegunCardSaid :=
  Claim7.holds_tied_plain_at .later [] [.data, .funcs, .funcs] true (true, "393034bbd27394f706bbc53b3d79bfc9089609ec68595c369e8e995126faea7d") true
    over (fun _ h => by cases h) (by as_aux_lemma => kernel_rfl) (fun _ h => by cases h) auditBegun_row_tie rfl ⟨rfl, rfl⟩ (by as_aux_lemma => kernel_rfl) rfl
    (fun f fn hf hfn => by
      obtain rfl : f = 3 := Option.some.inj (cardFn.symm.trans hf) |>.symm
      obtain rfl : fn = Tryz.f3 := (Option.some.inj (Tryz.func3.symm.trans hfn)).symm
      exact ⟨by as_aux_lemma => kernel_rfl, fun j t ht => by
        rw [Tryz.params3] at ht
        have hm : t ∈ [24, 24, 3] := by simpa using Array.mem_of_getElem? ht
        have hall : ([24, 24, 3].all fun u => !Tryz.prog.wantsStandIn u) = true := by kernel_rfl
        exact (show Tryz.prog.wantsStandIn t = false by simpa using List.all_eq_true.1 hall t hm)⟩)
    (goes_by noGoes rfl)
#print axioms card_holds
end Go.Proofs.YteiaibkhlejkbaaGreatDoor.auditBegun
