/-
  Proved here: a segment of the closed statement's call, reckoned by the kernel.
  Conditions: none.
-/
import Derived.Test.YtbnjeblcleihkaaGreatDoorSegV1
namespace Go.Proofs.YtbnjeblcleihkaaGreatDoor.auditCounted
open Go.RowKit Go.Rn
set_option maxRecDepth 100000
theorem seg1 : viewOf ns1 (arow Tryz.prog call 3 fr0 st0) = some (fr1, 270, os1) := by kernel_rfl
end Go.Proofs.YtbnjeblcleihkaaGreatDoor.auditCounted
