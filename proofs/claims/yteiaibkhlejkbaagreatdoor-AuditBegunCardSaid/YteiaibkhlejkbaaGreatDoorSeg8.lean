/-
  Proved here: a segment of the closed statement's call, reckoned by the kernel.
  Conditions: none.
-/
import Derived.Test.YteiaibkhlejkbaaGreatDoorSegV1
namespace Go.Proofs.YteiaibkhlejkbaaGreatDoor.auditBegun
open Go.RowKit Go.Rn
set_option maxRecDepth 100000
theorem end8 : endView Tryz.prog Tryz.f4.results.toList ns8 (arow Tryz.prog call 5 fr7 st7) = some (y8, 3140, os8) := by kernel_rfl
end Go.Proofs.YteiaibkhlejkbaaGreatDoor.auditBegun
