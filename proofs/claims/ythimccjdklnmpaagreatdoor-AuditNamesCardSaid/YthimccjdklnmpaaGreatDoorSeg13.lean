/-
  Proved here: a segment of the closed statement's call, reckoned by the kernel.
  Conditions: none.
-/
import Derived.Test.YthimccjdklnmpaaGreatDoorSegV1
import Derived.Test.YthimccjdklnmpaaGreatDoorSegV2
namespace Go.Proofs.YthimccjdklnmpaaGreatDoor.auditNames
open Go.RowKit Go.Rn
set_option maxRecDepth 100000
theorem cal13 : callView Tryz.prog call ns13 fr12 st12 3 = some (t13, 6, vs13, 4680, os13) := by kernel_rfl
end Go.Proofs.YthimccjdklnmpaaGreatDoor.auditNames
