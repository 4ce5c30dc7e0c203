/-
  Proved here: a segment of the closed statement's call, reckoned by the kernel.
  Conditions: none.
-/
import Derived.Test.YthimccjdklnmpaaGreatDoorSegV1
import Derived.Test.YthimccjdklnmpaaGreatDoorSegV2
namespace Go.Proofs.YthimccjdklnmpaaGreatDoor.auditNames
open Go.RowKit Go.Rn
set_option maxRecDepth 100000
theorem seg6 : viewOf ns6 (arow Tryz.prog call 52 fr5 st5) = some (fr6, 1534, os6) := by kernel_rfl
end Go.Proofs.YthimccjdklnmpaaGreatDoor.auditNames
