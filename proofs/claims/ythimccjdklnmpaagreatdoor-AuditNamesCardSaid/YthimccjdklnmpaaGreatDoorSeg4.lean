/-
  Proved here: a segment of the closed statement's call, reckoned by the kernel.
  Conditions: none.
-/
import Derived.Test.YthimccjdklnmpaaGreatDoorSegV1
import Derived.Test.YthimccjdklnmpaaGreatDoorSegV2
namespace Go.Proofs.YthimccjdklnmpaaGreatDoor.auditNames
open Go.RowKit Go.Rn
set_option maxRecDepth 100000
theorem cal4 : callView Tryz.prog call ns4 fr3 st3 2 = some (t4, 6, vs4, 278, os4) := by kernel_rfl
end Go.Proofs.YthimccjdklnmpaaGreatDoor.auditNames
