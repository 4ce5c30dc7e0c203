/-
  Proved here: a segment of the closed statement's call, reckoned by the kernel.
  Conditions: none.
-/
import Derived.Test.YteiaibkhlejkbaaGreatDoorSegV1
namespace Go.Proofs.YteiaibkhlejkbaaGreatDoor.auditBegun
open Go.RowKit Go.Rn
set_option maxRecDepth 100000
theorem seg5 : viewOf ns5 (arow Tryz.prog call 13 fr4 st4) = some (fr5, 2165, os5) := by kernel_rfl
end Go.Proofs.YteiaibkhlejkbaaGreatDoor.auditBegun
