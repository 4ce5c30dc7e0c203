/-
  Proved here: a segment of the closed statement's call, reckoned by the kernel.
  Conditions: none.
-/
import Derived.Test.YtadpekpmkclapaaGreatDoorSegV1
import Derived.Test.YtadpekpmkclapaaGreatDoorSegV2
namespace Go.Proofs.YtadpekpmkclapaaGreatDoor.scriptNames
open Go.RowKit Go.Rn
set_option maxRecDepth 100000
theorem cal5 : callView Tryz.prog call ns5 fr4 st4 1 = some (t5, 6, vs5, 1473, os5) := by kernel_rfl
end Go.Proofs.YtadpekpmkclapaaGreatDoor.scriptNames
