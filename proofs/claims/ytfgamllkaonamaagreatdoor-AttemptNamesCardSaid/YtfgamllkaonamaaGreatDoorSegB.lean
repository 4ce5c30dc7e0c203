/-
  Proved here: nothing yet: the words in which the segments of the closed statement's call are told (frames and memory between them).
  Conditions: none.
-/
import Derived.Test.YtfgamllkaonamaaGreatDoorRows
import Derived.Test.YtfgamllkaonamaaGreatDoorRnSegA
import Derived.KernelRfl
namespace Go.Proofs.YtfgamllkaonamaaGreatDoor.attemptNames
open Go.RowKit Go.Rn
set_option maxRecDepth 100000

/-- Functions that go through maps in an open row, and maps.clone. -/
noncomputable def way : FuncId → Nat := fun f => (@Bool.rec (fun _ => Nat) (@Bool.rec (fun _ => Nat) (@Bool.rec (fun _ => Nat) 0 2 (Nat.beq f 115)) 1 (Nat.beq f 90)) 1 (Nat.beq f 59))
noncomputable def body : Code := Tryz.f3.body.getD .skip
noncomputable def call : Caller := arun Tryz.prog way 60
def table0 : List (Option FuncId) := [none, none, none, none, (some 158), (some 159), (some 160), (some 161), (some 163)]
noncomputable def heap0 : Tr AObj := tableHeap 0 table0
noncomputable def fr0 : AF := ⟨3, fillArgs [], max Tryz.f3.ntmps 0, [.code body], [], none⟩
noncomputable def st0 : AS := ⟨heap0, globs, 0, [], []⟩
end Go.Proofs.YtfgamllkaonamaaGreatDoor.attemptNames
