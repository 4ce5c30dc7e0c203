/- math/bits.TrailingZeros32 by the kit's contract, as what is known of a function: at a u32 in its range, where the table lies. -/
import Derived.Test.YtbnjeblcleihkaaGreatDoorRnOpenB
import Derived.Test.YtbnjeblcleihkaaGreatDoorRnSegA
import Derived.Shelf.Spec.TrailingZeros
namespace Go.Rn
open Go.RowKit
noncomputable section
def tzI (x : Int) : Int := ((Go.Lib.ctz 32 x.toNat : Nat) : Int)
def tabT : Tr AV := Tr.fill (Go.Lib.deBruijn32tab.map fun n : Nat => AV.int .u8 (n : Int)) 0 .nil
end
end Go.Rn
