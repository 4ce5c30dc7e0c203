/-
  Proved here: a segment of the closed statement's call, reckoned by the kernel.
  Conditions: none.
-/
import Derived.Test.YtadpekpmkclapaaGreatDoorSegV1
import Derived.Test.YtadpekpmkclapaaGreatDoorSegV2
namespace Go.Proofs.YtadpekpmkclapaaGreatDoor.scriptNames
open Go.RowKit Go.Rn
set_option maxRecDepth 100000
theorem pos10 : postView Tryz.prog call ns10 fr4 t5 1 y9 st9 = some (fr10, 3305, os10) := by kernel_rfl
end Go.Proofs.YtadpekpmkclapaaGreatDoor.scriptNames
