/-
  Proved here: a segment of the closed statement's call, reckoned by the kernel.
  Conditions: none.
-/
import Derived.Test.YtadpekpmkclapaaGreatDoorSegV1
import Derived.Test.YtadpekpmkclapaaGreatDoorSegV2
namespace Go.Proofs.YtadpekpmkclapaaGreatDoor.scriptNames
open Go.RowKit Go.Rn
set_option maxRecDepth 100000
theorem end11 : endView Tryz.prog Tryz.f10.results.toList ns11 (arow Tryz.prog call 7 fr10 st10) = some (y11, 3623, os11) := by kernel_rfl
end Go.Proofs.YtadpekpmkclapaaGreatDoor.scriptNames
