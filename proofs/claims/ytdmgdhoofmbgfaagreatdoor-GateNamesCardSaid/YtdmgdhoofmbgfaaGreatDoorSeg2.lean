/-
  Proved here: a segment of the closed statement's call, reckoned by the kernel.
  Conditions: none.
-/
import Derived.Test.YtdmgdhoofmbgfaaGreatDoorSegB
namespace Go.Proofs.YtdmgdhoofmbgfaaGreatDoor.gateNames
open Go.RowKit Go.Rn
set_option maxRecDepth 100000
theorem segA2 : viewOf nsA2 (arow Tryz.prog call0 122 frA1 stA1) = some (frA2, 1796, osA2) := by kernel_rfl
end Go.Proofs.YtdmgdhoofmbgfaaGreatDoor.gateNames
