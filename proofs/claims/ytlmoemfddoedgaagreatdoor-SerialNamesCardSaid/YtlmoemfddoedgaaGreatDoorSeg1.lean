/-
  Proved here: segments of the closed statement's call, each reckoned by the kernel.
  Conditions: none.
-/
import Derived.Test.YtlmoemfddoedgaaGreatDoorSegB
namespace Go.Proofs.YtlmoemfddoedgaaGreatDoor.serialNames
open Go.RowKit Go.Rn
set_option maxRecDepth 100000
theorem seg1 : viewOf ns1 (arow Tryz.prog call 11 fr0 st0) = some (fr1, 1429, os1) := by kernel_rfl
end Go.Proofs.YtlmoemfddoedgaaGreatDoor.serialNames
