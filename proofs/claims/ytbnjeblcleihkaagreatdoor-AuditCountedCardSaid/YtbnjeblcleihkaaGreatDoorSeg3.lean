/-
  Proved here: a segment of the closed statement's call, reckoned by the kernel.
  Conditions: none.
-/
import Derived.Test.YtbnjeblcleihkaaGreatDoorSegV1
namespace Go.Proofs.YtbnjeblcleihkaaGreatDoor.auditCounted
open Go.RowKit Go.Rn
set_option maxRecDepth 100000
theorem seg3 : viewOf ns3 (arow Tryz.prog call 246 (⟨9, fillArgs vs2, max Tryz.f9.ntmps vs2.length, [.code bodyF9], [], none⟩ : AF) st2) = some (fr3, 1296, os3) := by kernel_rfl
end Go.Proofs.YtbnjeblcleihkaaGreatDoor.auditCounted
