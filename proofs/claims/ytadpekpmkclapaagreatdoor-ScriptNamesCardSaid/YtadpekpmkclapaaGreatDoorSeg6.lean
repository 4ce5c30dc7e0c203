/-
  Proved here: a segment of the closed statement's call, reckoned by the kernel.
  Conditions: none.
-/
import Derived.Test.YtadpekpmkclapaaGreatDoorSegV1
import Derived.Test.YtadpekpmkclapaaGreatDoorSegV2
namespace Go.Proofs.YtadpekpmkclapaaGreatDoor.scriptNames
open Go.RowKit Go.Rn
set_option maxRecDepth 100000
theorem seg6 : viewOf ns6 (arow Tryz.prog call 26 (⟨6, fillArgs vs5, max Tryz.f6.ntmps vs5.length, [.code bodyF6], [], none⟩ : AF) st5) = some (fr6, 1515, os6) := by kernel_rfl
end Go.Proofs.YtadpekpmkclapaaGreatDoor.scriptNames
