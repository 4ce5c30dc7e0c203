/-
  Proved here: a segment of the closed statement's call, reckoned by the kernel.
  Conditions: none.
-/
import Derived.Test.YtbnjeblcleihkaaGreatDoorSegV1
namespace Go.Proofs.YtbnjeblcleihkaaGreatDoor.auditCounted
open Go.RowKit Go.Rn
set_option maxRecDepth 100000
theorem cal2 : callView Tryz.prog call ns2 fr1 st1 2 = some (t2, 9, vs2, 278, os2) := by kernel_rfl
end Go.Proofs.YtbnjeblcleihkaaGreatDoor.auditCounted
