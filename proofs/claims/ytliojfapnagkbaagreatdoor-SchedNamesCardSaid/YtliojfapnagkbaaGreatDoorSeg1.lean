/-
  Proved here: segments of the closed statement's call, each reckoned by the kernel.
  Conditions: none.
-/
import Derived.Test.YtliojfapnagkbaaGreatDoorSegB
namespace Go.Proofs.YtliojfapnagkbaaGreatDoor.schedNames
open Go.RowKit Go.Rn
set_option maxRecDepth 100000
theorem seg1 : viewOf ns1 (arow Tryz.prog call 382 fr0 st0) = some (fr1, 1306, os1) := by kernel_rfl
end Go.Proofs.YtliojfapnagkbaaGreatDoor.schedNames
