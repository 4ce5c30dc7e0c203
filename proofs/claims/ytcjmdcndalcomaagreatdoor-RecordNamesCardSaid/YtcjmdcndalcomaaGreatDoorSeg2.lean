/-
  Proved here: segments of the closed statement's call, each reckoned by the kernel.
  Conditions: none.
-/
import Derived.Test.YtcjmdcndalcomaaGreatDoorSegB
namespace Go.Proofs.YtcjmdcndalcomaaGreatDoor.recordNames
open Go.RowKit Go.Rn
set_option maxRecDepth 100000
theorem seg2 : viewOf ns2 (arow Tryz.prog call 1 fr1 st1) = some (fr2, 1487, os2) := by kernel_rfl
end Go.Proofs.YtcjmdcndalcomaaGreatDoor.recordNames
