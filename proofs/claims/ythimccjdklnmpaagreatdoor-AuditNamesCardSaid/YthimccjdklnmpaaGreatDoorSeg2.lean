/-
  Proved here: a segment of the closed statement's call, reckoned by the kernel.
  Conditions: none.
-/
import Derived.Test.YthimccjdklnmpaaGreatDoorSegV1
import Derived.Test.YthimccjdklnmpaaGreatDoorSegV2
namespace Go.Proofs.YthimccjdklnmpaaGreatDoor.auditNames
open Go.RowKit Go.Rn
set_option maxRecDepth 100000
theorem cal2 : callView Tryz.prog call ns2 fr1 st1 0 = some (t2, 4, vs2, 270, os2) := by kernel_rfl
end Go.Proofs.YthimccjdklnmpaaGreatDoor.auditNames
