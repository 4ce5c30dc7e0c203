/-
  Proved here: a segment of the closed statement's call, reckoned by the kernel.
  Conditions: none.
-/
import Derived.Test.YthimccjdklnmpaaGreatDoorSegV1
import Derived.Test.YthimccjdklnmpaaGreatDoorSegV2
namespace Go.Proofs.YthimccjdklnmpaaGreatDoor.auditNames
open Go.RowKit Go.Rn
set_option maxRecDepth 100000
theorem end10 : endView Tryz.prog Tryz.f4.results.toList ns10 (arow Tryz.prog call 5 fr9 st9) = some (y10, 3140, os10) := by kernel_rfl
end Go.Proofs.YthimccjdklnmpaaGreatDoor.auditNames
