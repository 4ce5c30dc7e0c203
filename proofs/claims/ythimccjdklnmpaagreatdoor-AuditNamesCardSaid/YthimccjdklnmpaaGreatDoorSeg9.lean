/-
  Proved here: a segment of the closed statement's call, reckoned by the kernel.
  Conditions: none.
-/
import Derived.Test.YthimccjdklnmpaaGreatDoorSegV1
import Derived.Test.YthimccjdklnmpaaGreatDoorSegV2
namespace Go.Proofs.YthimccjdklnmpaaGreatDoor.auditNames
open Go.RowKit Go.Rn
set_option maxRecDepth 100000
theorem pos9 : postView Tryz.prog call ns9 fr3 t4 2 y8 st8 = some (fr9, 3121, os9) := by kernel_rfl
end Go.Proofs.YthimccjdklnmpaaGreatDoor.auditNames
