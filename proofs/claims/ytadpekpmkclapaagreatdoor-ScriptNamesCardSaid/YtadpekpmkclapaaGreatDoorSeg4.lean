/-
  Proved here: a segment of the closed statement's call, reckoned by the kernel.
  Conditions: none.
-/
import Derived.Test.YtadpekpmkclapaaGreatDoorSegV1
import Derived.Test.YtadpekpmkclapaaGreatDoorSegV2
namespace Go.Proofs.YtadpekpmkclapaaGreatDoor.scriptNames
open Go.RowKit Go.Rn
set_option maxRecDepth 100000
theorem seg4 : viewOf ns4 (arow Tryz.prog call 3 (⟨10, fillArgs vs3, max Tryz.f10.ntmps vs3.length, [.code bodyF10], [], none⟩ : AF) st3) = some (fr4, 1467, os4) := by kernel_rfl
end Go.Proofs.YtadpekpmkclapaaGreatDoor.scriptNames
