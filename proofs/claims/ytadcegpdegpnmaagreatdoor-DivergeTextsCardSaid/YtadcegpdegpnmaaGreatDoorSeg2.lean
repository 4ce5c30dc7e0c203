/-
  Proved here: a segment of the closed statement's call, reckoned by the kernel.
  Conditions: none.
-/
import Derived.Test.YtadcegpdegpnmaaGreatDoorSegV1
namespace Go.Proofs.YtadcegpdegpnmaaGreatDoor.divergeTexts
open Go.RowKit Go.Rn
set_option maxRecDepth 100000
theorem end2 : endView Tryz.prog Tryz.f4.results.toList ns2 (arow Tryz.prog call 2 fr1 st1) = some (y2, 1382, os2) := by kernel_rfl
end Go.Proofs.YtadcegpdegpnmaaGreatDoor.divergeTexts
