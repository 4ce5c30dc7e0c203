/-
  Proved here: a segment of the closed statement's call, reckoned by the kernel.
  Conditions: none.
-/
import Derived.Test.YtdmgdhoofmbgfaaGreatDoorSegB
namespace Go.Proofs.YtdmgdhoofmbgfaaGreatDoor.gateNames
open Go.RowKit Go.Rn
set_option maxRecDepth 100000
theorem seg2 : viewOf ns2 (arow Tryz.prog call 161 fr1 st1) = some (fr2, 2304, os2) := by kernel_rfl
end Go.Proofs.YtdmgdhoofmbgfaaGreatDoor.gateNames
