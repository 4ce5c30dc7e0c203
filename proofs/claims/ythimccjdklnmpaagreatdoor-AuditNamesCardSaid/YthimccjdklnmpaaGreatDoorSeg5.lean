/-
  Proved here: a segment of the closed statement's call, reckoned by the kernel.
  Conditions: none.
-/
import Derived.Test.YthimccjdklnmpaaGreatDoorSegV1
import Derived.Test.YthimccjdklnmpaaGreatDoorSegV2
namespace Go.Proofs.YthimccjdklnmpaaGreatDoor.auditNames
open Go.RowKit Go.Rn
set_option maxRecDepth 100000
theorem seg5 : viewOf ns5 (arow Tryz.prog call 207 (⟨6, fillArgs vs4, max Tryz.f6.ntmps vs4.length, [.code bodyF6], [], none⟩ : AF) st4) = some (fr5, 781, os5) := by kernel_rfl
end Go.Proofs.YthimccjdklnmpaaGreatDoor.auditNames
