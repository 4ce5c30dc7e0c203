/-
  Proved here: segments of the closed statement's call, each reckoned by the kernel.
  Conditions: none.
-/
import Derived.Test.YtliojfapnagkbaaGreatDoorSegB
namespace Go.Proofs.YtliojfapnagkbaaGreatDoor.schedNames
open Go.RowKit Go.Rn
set_option maxRecDepth 100000
theorem segLast : isTrue (valueOf Tryz.prog Tryz.f3.results.toList (arow Tryz.prog call 5 fr2 st2)) = true := by kernel_rfl
end Go.Proofs.YtliojfapnagkbaaGreatDoor.schedNames
