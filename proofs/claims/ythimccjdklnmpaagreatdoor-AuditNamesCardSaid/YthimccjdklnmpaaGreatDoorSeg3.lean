/-
  Proved here: a segment of the closed statement's call, reckoned by the kernel.
  Conditions: none.
-/
import Derived.Test.YthimccjdklnmpaaGreatDoorSegV1
import Derived.Test.YthimccjdklnmpaaGreatDoorSegV2
namespace Go.Proofs.YthimccjdklnmpaaGreatDoor.auditNames
open Go.RowKit Go.Rn
set_option maxRecDepth 100000
theorem seg3 : viewOf ns3 (arow Tryz.prog call 3 (⟨4, fillArgs vs2, max Tryz.f4.ntmps vs2.length, [.code bodyF4], [], none⟩ : AF) st2) = some (fr3, 270, os3) := by kernel_rfl
end Go.Proofs.YthimccjdklnmpaaGreatDoor.auditNames
