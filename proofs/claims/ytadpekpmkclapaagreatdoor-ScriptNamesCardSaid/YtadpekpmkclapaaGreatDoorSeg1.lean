/-
  Proved here: a segment of the closed statement's call, reckoned by the kernel.
  Conditions: none.
-/
import Derived.Test.YtadpekpmkclapaaGreatDoorSegV1
import Derived.Test.YtadpekpmkclapaaGreatDoorSegV2
namespace Go.Proofs.YtadpekpmkclapaaGreatDoor.scriptNames
open Go.RowKit Go.Rn
set_option maxRecDepth 100000
theorem seg1 : viewOf ns1 (arow Tryz.prog call 110 fr0 st0) = some (fr1, 787, os1) := by kernel_rfl
end Go.Proofs.YtadpekpmkclapaaGreatDoor.scriptNames
