/-
  Proved here: segments of the closed statement's call, each reckoned by the kernel.
  Conditions: none.
-/
import Derived.Test.YtlmoemfddoedgaaGreatDoorSegB
namespace Go.Proofs.YtlmoemfddoedgaaGreatDoor.serialNames
open Go.RowKit Go.Rn
set_option maxRecDepth 100000
theorem seg2 : viewOf ns2 (arow Tryz.prog call 14 fr1 st1) = some (fr2, 2821, os2) := by kernel_rfl
end Go.Proofs.YtlmoemfddoedgaaGreatDoor.serialNames
