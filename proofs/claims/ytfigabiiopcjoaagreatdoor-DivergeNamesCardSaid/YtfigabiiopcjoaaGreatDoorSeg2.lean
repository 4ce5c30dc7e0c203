/-
  Proved here: a segment of the closed statement's call, reckoned by the kernel.
  Conditions: none.
-/
import Derived.Test.YtfigabiiopcjoaaGreatDoorSegB
namespace Go.Proofs.YtfigabiiopcjoaaGreatDoor.divergeNames
open Go.RowKit Go.Rn
set_option maxRecDepth 100000
theorem segLast : isTrue (valueOf Tryz.prog Tryz.f3.results.toList (arow Tryz.prog call 2 fr1 st1)) = true := by kernel_rfl
end Go.Proofs.YtfigabiiopcjoaaGreatDoor.divergeNames
