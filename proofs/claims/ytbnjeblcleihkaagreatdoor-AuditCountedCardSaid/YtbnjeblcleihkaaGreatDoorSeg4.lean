/-
  Proved here: a segment of the closed statement's call, reckoned by the kernel.
  Conditions: none.
-/
import Derived.Test.YtbnjeblcleihkaaGreatDoorSegV1
namespace Go.Proofs.YtbnjeblcleihkaaGreatDoor.auditCounted
open Go.RowKit Go.Rn
set_option maxRecDepth 100000
theorem seg4 : viewOf ns4 (arow Tryz.prog call 26 fr3 st3) = some (fr4, 2165, os4) := by kernel_rfl
end Go.Proofs.YtbnjeblcleihkaaGreatDoor.auditCounted
