/-
  Proved here: a segment of the closed statement's call, reckoned by the kernel.
  Conditions: none.
-/
import Derived.Test.YthimccjdklnmpaaGreatDoorSegV1
import Derived.Test.YthimccjdklnmpaaGreatDoorSegV2
namespace Go.Proofs.YthimccjdklnmpaaGreatDoor.auditNames
open Go.RowKit Go.Rn
set_option maxRecDepth 100000
theorem end17 : endView Tryz.prog Tryz.f6.results.toList ns17 (arow Tryz.prog call 24 fr16 st16) = some (y17, 7909, os17) := by kernel_rfl
end Go.Proofs.YthimccjdklnmpaaGreatDoor.auditNames
