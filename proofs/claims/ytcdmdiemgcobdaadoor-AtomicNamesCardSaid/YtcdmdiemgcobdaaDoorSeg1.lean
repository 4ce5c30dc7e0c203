/-
  Proved here: segments of the closed statement's call, each reckoned by the kernel.
  Conditions: none.
-/
import Derived.Test.YtcdmdiemgcobdaaDoorSegB
namespace Go.Proofs.YtcdmdiemgcobdaaDoor.atomicNames
open Go.RowKit Go.Rn
set_option maxRecDepth 100000
theorem seg1 : viewOf ns1 (arow Tryd.prog call 33 fr0 st0) = some (fr1, 1680, os1) := by kernel_rfl
end Go.Proofs.YtcdmdiemgcobdaaDoor.atomicNames
