/-
  Proved here: nothing yet: the words in which the segments of the closed statement's call are told (what is known at the start; frames and memory between segments).
  Conditions: none.
-/
import Derived.Test.YtadpekpmkclapaaGreatDoorRows
import Derived.Test.YtadpekpmkclapaaGreatDoorRnSegA
import Derived.KernelRfl
namespace Go.Proofs.YtadpekpmkclapaaGreatDoor.scriptNames
open Go.RowKit Go.Rn
set_option maxRecDepth 100000

/-- Functions that go through maps in an open row, and maps.clone. -/
noncomputable def way : FuncId → Nat := fun f => (@Bool.rec (fun _ => Nat) (@Bool.rec (fun _ => Nat) (@Bool.rec (fun _ => Nat) (@Bool.rec (fun _ => Nat) (@Bool.rec (fun _ => Nat) 0 2 (Nat.beq f 403)) 1 (Nat.beq f 299)) 1 (Nat.beq f 253)) 1 (Nat.beq f 50)) 3 (Nat.beq f 42))
def kinds0 : List (List UInt8 × List FuncId) := [([], []), ([98, 101, 103, 105, 110], [453, 454]), ([108, 111, 111, 107], [450, 454]), ([108, 111, 97, 100], [450, 455]), ([108, 111, 99, 107], [450]), ([98, 117, 109, 112], [454]), ([99, 104, 101, 99, 107], [450]), ([99, 111, 109, 109, 105, 116], [454]), ([115, 116, 111, 114, 101], [450, 455]), ([102, 114, 101, 101], [450]), ([97, 98, 111, 114, 116], [456, 450]), ([117, 110, 100, 111], [450]), ([119, 97, 105, 116], []), ([119, 97, 107, 101], [])]
def table0 : List (Option FuncId) := [none, none, none, none, (some 457), (some 458), (some 459), (some 460), (some 462)]
def ints0 : List Int := [0, 1, 28, 2, 29, 14, 24, 3, 30, 22, 20, 15, 25, 17, 4, 8, 31, 27, 13, 23, 21, 19, 16, 7, 26, 12, 18, 6, 11, 5, 10, 9]
noncomputable def intCells0 : List AV := ints0.map fun n => AV.int .u8 n
noncomputable def tableCells : List AV := table0.map entryAV
def nx0 : Nat := 270
def known0 : List Nat := [3, 2, 1, 256, 257, 258, 259, 260, 261, 262, 263, 264, 265, 266, 267, 268, 269]
noncomputable def heapK : Tr AObj := (rowsHeap globs (kinds0.map (·.2)) .nil).put 1 (some (.ro (kindCells globs kinds0).length (Tr.fill (kindCells globs kinds0) 0 .nil)))
noncomputable def heapI0 : Tr AObj := heapK.put 2 (some (.ro intCells0.length (Tr.fill intCells0 0 .nil)))
noncomputable def heap0 : Tr AObj := heapI0.put 3 (some (.ro tableCells.length (Tr.fill tableCells 0 .nil)))
noncomputable def call0 : Caller := arun Tryz.prog way 60
noncomputable def call : Caller := call0
noncomputable def bodyF3 : Code := Tryz.f3.body.getD .skip
noncomputable def bodyF6 : Code := Tryz.f6.body.getD .skip
noncomputable def bodyF10 : Code := Tryz.f10.body.getD .skip
noncomputable def fr0 : AF := ⟨3, fillArgs [], max Tryz.f3.ntmps 0, [.code bodyF3], [], none⟩
noncomputable def st0 : AS := ⟨heap0, nx0, 0, [], []⟩
end Go.Proofs.YtadpekpmkclapaaGreatDoor.scriptNames
