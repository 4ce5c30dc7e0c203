/-
  Proved here: a segment of the closed statement's call, reckoned by the kernel.
  Conditions: none.
-/
import Derived.Test.YthimccjdklnmpaaGreatDoorSegV1
import Derived.Test.YthimccjdklnmpaaGreatDoorSegV2
namespace Go.Proofs.YthimccjdklnmpaaGreatDoor.auditNames
open Go.RowKit Go.Rn
set_option maxRecDepth 100000
theorem seg12 : viewOf ns12 (arow Tryz.prog call 20 fr11 st11) = some (fr12, 4667, os12) := by kernel_rfl
end Go.Proofs.YthimccjdklnmpaaGreatDoor.auditNames
