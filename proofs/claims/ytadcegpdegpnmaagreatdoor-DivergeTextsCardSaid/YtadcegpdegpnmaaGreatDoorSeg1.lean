/-
  Proved here: a segment of the closed statement's call, reckoned by the kernel.
  Conditions: none.
-/
import Derived.Test.YtadcegpdegpnmaaGreatDoorSegV1
namespace Go.Proofs.YtadcegpdegpnmaaGreatDoor.divergeTexts
open Go.RowKit Go.Rn
set_option maxRecDepth 100000
theorem seg1 : viewOf ns1 (arow Tryz.prog call 11 fr0 st0) = some (fr1, 1351, os1) := by kernel_rfl
end Go.Proofs.YtadcegpdegpnmaaGreatDoor.divergeTexts
