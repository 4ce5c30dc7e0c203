/-
  Proved here: a segment of the closed statement's call, reckoned by the kernel.
  Conditions: none.
-/
import Derived.Test.YteiaibkhlejkbaaGreatDoorSegV1
namespace Go.Proofs.YteiaibkhlejkbaaGreatDoor.auditBegun
open Go.RowKit Go.Rn
set_option maxRecDepth 100000
theorem pos7 : postView Tryz.prog call ns7 fr1 t2 2 y6 st6 = some (fr7, 3121, os7) := by kernel_rfl
end Go.Proofs.YteiaibkhlejkbaaGreatDoor.auditBegun
