/-
  Proved here: a segment of the closed statement's call, reckoned by the kernel.
  Conditions: none.
-/
import Derived.Test.YteiaibkhlejkbaaGreatDoorSegV1
namespace Go.Proofs.YteiaibkhlejkbaaGreatDoor.auditBegun
open Go.RowKit Go.Rn
set_option maxRecDepth 100000
theorem seg3 : viewOf ns3 (arow Tryz.prog call 207 (⟨7, fillArgs vs2, max Tryz.f7.ntmps vs2.length, [.code bodyF7], [], none⟩ : AF) st2) = some (fr3, 781, os3) := by kernel_rfl
end Go.Proofs.YteiaibkhlejkbaaGreatDoor.auditBegun
