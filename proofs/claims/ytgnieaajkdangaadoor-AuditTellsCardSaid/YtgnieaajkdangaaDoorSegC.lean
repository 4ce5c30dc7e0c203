/-
  Proved here: the tied card of the closed statement AuditTells.
  Conditions: those that the given statement names, and no others.
-/
import Derived.Test.YtgnieaajkdangaaDoorSegR
import Derived.Test.YtgnieaajkdangaaDoorCards
import Derived.Test.YtgnieaajkdangaaDoorTie
import Derived.SevenTiedAt
namespace Go.Proofs.YtgnieaajkdangaaDoor.auditTells
open Go
theorem card_holds : Rows.AuditTellsCardSaid :=
  Claim7.holds_tied_plain_at .later [] [.data, .data, .funcs] true (true, "66c3c00ce3bed746246bb4adc2bc755122baab96aeb39da0248f71aa2138017f") false
    over (fun _ h => by cases h) (by kernel_rfl) (fun _ h => by cases h) auditTells_row_tie rfl ⟨rfl, rfl⟩ (by kernel_rfl) rfl
    (fun f fn hf ga => by
      obtain rfl : f = 3 := Option.some.inj ((show Tryd.prog.funcNamed Rows.auditTellsRow.func = some 3 by kernel_rfl).symm.trans hf) |>.symm
      obtain rfl : fn = Tryd.f3 := (Option.some.inj (Tryd.func3.symm.trans ga)).symm
      exact ⟨by kernel_rfl, fun j t ht => by
        rw [Tryd.params3] at ht
        have hm : t ∈ ([24, 24, 25] : List TypeId) := by simpa using Array.mem_of_getElem? ht
        have eF : (([24, 24, 25] : List TypeId).all fun u => !Tryd.prog.wantsStandIn u) = true := by kernel_rfl
        exact (show Tryd.prog.wantsStandIn t = false by simpa using List.all_eq_true.1 eF t hm)⟩)
    (by kernel_rfl)
#print axioms card_holds
end Go.Proofs.YtgnieaajkdangaaDoor.auditTells
