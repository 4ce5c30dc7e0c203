/-
  Proved here: segments of the closed statement's call, each reckoned by the kernel.
  Conditions: none.
-/
import Derived.Test.YtfgamllkaonamaaGreatDoorSegB
namespace Go.Proofs.YtfgamllkaonamaaGreatDoor.attemptNames
open Go.RowKit Go.Rn
set_option maxRecDepth 100000
theorem segLast : isTrue (valueOf Tryz.prog Tryz.f3.results.toList (arow Tryz.prog call 160 fr0 st0)) = true := by kernel_rfl
end Go.Proofs.YtfgamllkaonamaaGreatDoor.attemptNames
