/-
  Proved here: a segment of the closed statement's call, reckoned by the kernel.
  Conditions: none.
-/
import Derived.Test.YthimccjdklnmpaaGreatDoorSegV1
import Derived.Test.YthimccjdklnmpaaGreatDoorSegV2
namespace Go.Proofs.YthimccjdklnmpaaGreatDoor.auditNames
open Go.RowKit Go.Rn
set_option maxRecDepth 100000
theorem pos11 : postView Tryz.prog call ns11 fr1 t2 0 y10 st10 = some (fr11, 3140, os11) := by kernel_rfl
end Go.Proofs.YthimccjdklnmpaaGreatDoor.auditNames
