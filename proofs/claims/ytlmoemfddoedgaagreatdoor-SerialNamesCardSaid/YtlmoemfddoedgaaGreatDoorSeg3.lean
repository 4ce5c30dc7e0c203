/-
  Proved here: segments of the closed statement's call, each reckoned by the kernel.
  Conditions: none.
-/
import Derived.Test.YtlmoemfddoedgaaGreatDoorSegB
namespace Go.Proofs.YtlmoemfddoedgaaGreatDoor.serialNames
open Go.RowKit Go.Rn
set_option maxRecDepth 100000
theorem seg3 : viewOf ns3 (arow Tryz.prog call 5 fr2 st2) = some (fr3, 3622, os3) := by kernel_rfl
end Go.Proofs.YtlmoemfddoedgaaGreatDoor.serialNames
