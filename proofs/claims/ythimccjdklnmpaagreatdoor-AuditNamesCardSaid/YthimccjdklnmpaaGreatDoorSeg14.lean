/-
  Proved here: a segment of the closed statement's call, reckoned by the kernel.
  Conditions: none.
-/
import Derived.Test.YthimccjdklnmpaaGreatDoorSegV1
import Derived.Test.YthimccjdklnmpaaGreatDoorSegV2
namespace Go.Proofs.YthimccjdklnmpaaGreatDoor.auditNames
open Go.RowKit Go.Rn
set_option maxRecDepth 100000
theorem seg14 : viewOf ns14 (arow Tryz.prog call 184 (⟨6, fillArgs vs13, max Tryz.f6.ntmps vs13.length, [.code bodyF6], [], none⟩ : AF) st13) = some (fr14, 5497, os14) := by kernel_rfl
end Go.Proofs.YthimccjdklnmpaaGreatDoor.auditNames
