/-
  Proved here: a segment of the closed statement's call, reckoned by the kernel.
  Conditions: none.
-/
import Derived.Test.YthimccjdklnmpaaGreatDoorSegV1
import Derived.Test.YthimccjdklnmpaaGreatDoorSegV2
namespace Go.Proofs.YthimccjdklnmpaaGreatDoor.auditNames
open Go.RowKit Go.Rn
set_option maxRecDepth 100000
theorem seg7 : viewOf ns7 (arow Tryz.prog call 13 fr6 st6) = some (fr7, 2165, os7) := by kernel_rfl
end Go.Proofs.YthimccjdklnmpaaGreatDoor.auditNames
