/-
  Proved here: segments of the closed statement's call, each reckoned by the kernel.
  Conditions: none.
-/
import Derived.Test.YtlmoemfddoedgaaGreatDoorSegB
namespace Go.Proofs.YtlmoemfddoedgaaGreatDoor.serialNames
open Go.RowKit Go.Rn
set_option maxRecDepth 100000
theorem seg4 : viewOf ns4 (arow Tryz.prog call 1 fr3 st3) = some (fr4, 4619, os4) := by kernel_rfl
end Go.Proofs.YtlmoemfddoedgaaGreatDoor.serialNames
