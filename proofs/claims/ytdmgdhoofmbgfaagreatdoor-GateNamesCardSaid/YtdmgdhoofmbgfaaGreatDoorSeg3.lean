/-
  Proved here: a segment of the closed statement's call, reckoned by the kernel.
  Conditions: none.
-/
import Derived.Test.YtdmgdhoofmbgfaaGreatDoorSegB
namespace Go.Proofs.YtdmgdhoofmbgfaaGreatDoor.gateNames
open Go.RowKit Go.Rn
set_option maxRecDepth 100000
theorem segLastA : isTrue (valueOf Tryz.prog Tryz.f15.results.toList (arow Tryz.prog call0 13 frA2 stA2)) = true := by kernel_rfl
end Go.Proofs.YtdmgdhoofmbgfaaGreatDoor.gateNames
