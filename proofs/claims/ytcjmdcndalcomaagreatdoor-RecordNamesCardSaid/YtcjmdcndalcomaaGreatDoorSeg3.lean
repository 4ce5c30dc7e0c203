/-
  Proved here: segments of the closed statement's call, each reckoned by the kernel.
  Conditions: none.
-/
import Derived.Test.YtcjmdcndalcomaaGreatDoorSegB
namespace Go.Proofs.YtcjmdcndalcomaaGreatDoor.recordNames
open Go.RowKit Go.Rn
set_option maxRecDepth 100000
theorem segLast : isTrue (valueOf Tryz.prog Tryz.f3.results.toList (arow Tryz.prog call 1 fr2 st2)) = true := by kernel_rfl
end Go.Proofs.YtcjmdcndalcomaaGreatDoor.recordNames
