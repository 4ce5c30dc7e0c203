/-
  Proved here: a segment of the closed statement's call, reckoned by the kernel.
  Conditions: none.
-/
import Derived.Test.YthimccjdklnmpaaGreatDoorSegV1
import Derived.Test.YthimccjdklnmpaaGreatDoorSegV2
namespace Go.Proofs.YthimccjdklnmpaaGreatDoor.auditNames
open Go.RowKit Go.Rn
set_option maxRecDepth 100000
theorem end8 : endView Tryz.prog Tryz.f6.results.toList ns8 (arow Tryz.prog call 12 fr7 st7) = some (y8, 3120, os8) := by kernel_rfl
end Go.Proofs.YthimccjdklnmpaaGreatDoor.auditNames
