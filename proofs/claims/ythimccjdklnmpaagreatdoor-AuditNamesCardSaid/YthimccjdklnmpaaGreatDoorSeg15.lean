/-
  Proved here: a segment of the closed statement's call, reckoned by the kernel.
  Conditions: none.
-/
import Derived.Test.YthimccjdklnmpaaGreatDoorSegV1
import Derived.Test.YthimccjdklnmpaaGreatDoorSegV2
namespace Go.Proofs.YthimccjdklnmpaaGreatDoor.auditNames
open Go.RowKit Go.Rn
set_option maxRecDepth 100000
theorem seg15 : viewOf ns15 (arow Tryz.prog call 52 fr14 st14) = some (fr15, 6276, os15) := by kernel_rfl
end Go.Proofs.YthimccjdklnmpaaGreatDoor.auditNames
