/-
  Proved here: a segment of the closed statement's call, reckoned by the kernel.
  Conditions: none.
-/
import Derived.Test.YtadpekpmkclapaaGreatDoorSegV1
import Derived.Test.YtadpekpmkclapaaGreatDoorSegV2
namespace Go.Proofs.YtadpekpmkclapaaGreatDoor.scriptNames
open Go.RowKit Go.Rn
set_option maxRecDepth 100000
theorem pos12 : postView Tryz.prog call ns12 fr2 t3 65 y11 st11 = some (fr12, 3623, os12) := by kernel_rfl
end Go.Proofs.YtadpekpmkclapaaGreatDoor.scriptNames
