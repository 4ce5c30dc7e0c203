/-
  Proved here: a segment of the closed statement's call, reckoned by the kernel.
  Conditions: none.
-/
import Derived.Test.YthimccjdklnmpaaGreatDoorSegV1
import Derived.Test.YthimccjdklnmpaaGreatDoorSegV2
namespace Go.Proofs.YthimccjdklnmpaaGreatDoor.auditNames
open Go.RowKit Go.Rn
set_option maxRecDepth 100000
theorem seg16 : viewOf ns16 (arow Tryz.prog call 1 fr15 st15) = some (fr16, 7337, os16) := by kernel_rfl
end Go.Proofs.YthimccjdklnmpaaGreatDoor.auditNames
