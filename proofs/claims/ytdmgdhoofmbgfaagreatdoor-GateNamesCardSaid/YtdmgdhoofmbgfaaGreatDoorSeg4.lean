/-
  Proved here: a segment of the closed statement's call, reckoned by the kernel.
  Conditions: none.
-/
import Derived.Test.YtdmgdhoofmbgfaaGreatDoorSegB
namespace Go.Proofs.YtdmgdhoofmbgfaaGreatDoor.gateNames
open Go.RowKit Go.Rn
set_option maxRecDepth 100000
theorem seg1 : viewOf ns1 (arow Tryz.prog call 45 fr0 st0) = some (fr1, 1201, os1) := by kernel_rfl
end Go.Proofs.YtdmgdhoofmbgfaaGreatDoor.gateNames
