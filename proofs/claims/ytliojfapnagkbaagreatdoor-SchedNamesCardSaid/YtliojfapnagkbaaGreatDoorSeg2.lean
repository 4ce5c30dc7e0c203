/-
  Proved here: segments of the closed statement's call, each reckoned by the kernel.
  Conditions: none.
-/
import Derived.Test.YtliojfapnagkbaaGreatDoorSegB
namespace Go.Proofs.YtliojfapnagkbaaGreatDoor.schedNames
open Go.RowKit Go.Rn
set_option maxRecDepth 100000
theorem seg2 : viewOf ns2 (arow Tryz.prog call 353 fr1 st1) = some (fr2, 1716, os2) := by kernel_rfl
end Go.Proofs.YtliojfapnagkbaaGreatDoor.schedNames
