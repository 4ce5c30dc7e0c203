/-
  Proved here: a segment of the closed statement's call, reckoned by the kernel.
  Conditions: none.
-/
import Derived.Test.YtbnjeblcleihkaaGreatDoorSegV1
namespace Go.Proofs.YtbnjeblcleihkaaGreatDoor.auditCounted
open Go.RowKit Go.Rn
set_option maxRecDepth 100000
theorem pos6 : postView Tryz.prog call ns6 fr1 t2 2 y5 st5 = some (fr6, 3121, os6) := by kernel_rfl
end Go.Proofs.YtbnjeblcleihkaaGreatDoor.auditCounted
