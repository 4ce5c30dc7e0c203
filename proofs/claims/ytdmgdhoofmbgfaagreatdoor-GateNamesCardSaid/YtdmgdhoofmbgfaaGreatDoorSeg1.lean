/-
  Proved here: a segment of the closed statement's call, reckoned by the kernel.
  Conditions: none.
-/
import Derived.Test.YtdmgdhoofmbgfaaGreatDoorSegB
namespace Go.Proofs.YtdmgdhoofmbgfaaGreatDoor.gateNames
open Go.RowKit Go.Rn
set_option maxRecDepth 100000
theorem segA1 : viewOf nsA1 (arow Tryz.prog call0 66 frA0 stA0) = some (frA1, 1393, osA1) := by kernel_rfl
end Go.Proofs.YtdmgdhoofmbgfaaGreatDoor.gateNames
