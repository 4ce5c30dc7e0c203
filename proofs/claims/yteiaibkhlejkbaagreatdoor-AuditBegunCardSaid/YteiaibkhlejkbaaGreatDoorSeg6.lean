/-
  Proved here: a segment of the closed statement's call, reckoned by the kernel.
  Conditions: none.
-/
import Derived.Test.YteiaibkhlejkbaaGreatDoorSegV1
namespace Go.Proofs.YteiaibkhlejkbaaGreatDoor.auditBegun
open Go.RowKit Go.Rn
set_option maxRecDepth 100000
theorem end6 : endView Tryz.prog Tryz.f7.results.toList ns6 (arow Tryz.prog call 12 fr5 st5) = some (y6, 3120, os6) := by kernel_rfl
end Go.Proofs.YteiaibkhlejkbaaGreatDoor.auditBegun
