/-
  Proved here: a segment of the closed statement's call, reckoned by the kernel.
  Conditions: none.
-/
import Derived.Test.YthimccjdklnmpaaGreatDoorSegV1
import Derived.Test.YthimccjdklnmpaaGreatDoorSegV2
namespace Go.Proofs.YthimccjdklnmpaaGreatDoor.auditNames
open Go.RowKit Go.Rn
set_option maxRecDepth 100000
theorem pos18 : postView Tryz.prog call ns18 fr12 t13 3 y17 st17 = some (fr18, 7910, os18) := by kernel_rfl
end Go.Proofs.YthimccjdklnmpaaGreatDoor.auditNames
