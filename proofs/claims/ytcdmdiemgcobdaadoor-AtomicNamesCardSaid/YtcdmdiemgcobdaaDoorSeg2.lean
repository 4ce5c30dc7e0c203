/-
  Proved here: segments of the closed statement's call, each reckoned by the kernel.
  Conditions: none.
-/
import Derived.Test.YtcdmdiemgcobdaaDoorSegB
namespace Go.Proofs.YtcdmdiemgcobdaaDoor.atomicNames
open Go.RowKit Go.Rn
set_option maxRecDepth 100000
theorem segLast : isTrue (valueOf Tryd.prog Tryd.f3.results.toList (arow Tryd.prog call 2 fr1 st1)) = true := by kernel_rfl
end Go.Proofs.YtcdmdiemgcobdaaDoor.atomicNames
