/-
  Proved here: a segment of the closed statement's call, reckoned by the kernel.
  Conditions: none.
-/
import Derived.Test.YthimccjdklnmpaaGreatDoorSegV1
import Derived.Test.YthimccjdklnmpaaGreatDoorSegV2
namespace Go.Proofs.YthimccjdklnmpaaGreatDoor.auditNames
open Go.RowKit Go.Rn
set_option maxRecDepth 100000
theorem end19 : endView Tryz.prog Tryz.f3.results.toList ns19 (arow Tryz.prog call 43 fr18 st18) = some (y19, 8821, os19) := by kernel_rfl
end Go.Proofs.YthimccjdklnmpaaGreatDoor.auditNames
