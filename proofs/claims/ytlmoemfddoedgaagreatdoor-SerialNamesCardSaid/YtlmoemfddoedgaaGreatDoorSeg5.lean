/-
  Proved here: segments of the closed statement's call, each reckoned by the kernel.
  Conditions: none.
-/
import Derived.Test.YtlmoemfddoedgaaGreatDoorSegB
namespace Go.Proofs.YtlmoemfddoedgaaGreatDoor.serialNames
open Go.RowKit Go.Rn
set_option maxRecDepth 100000
theorem segLast : isTrue (valueOf Tryz.prog Tryz.f3.results.toList (arow Tryz.prog call 1 fr4 st4)) = true := by kernel_rfl
end Go.Proofs.YtlmoemfddoedgaaGreatDoor.serialNames
