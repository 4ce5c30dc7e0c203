/-
  Proved here: nothing yet: the words in which the segments of the closed statement's call are told (what is known at the start; frames and memory between segments).
  Conditions: none.
-/
import Derived.Test.YtbnjeblcleihkaaGreatDoorRows
import Derived.Test.YtbnjeblcleihkaaGreatDoorRnSegA
import Derived.KernelRfl
namespace Go.Proofs.YtbnjeblcleihkaaGreatDoor.auditCounted
open Go.RowKit Go.Rn
set_option maxRecDepth 100000

/-- Functions that go through maps in an open row, and maps.clone. -/
noncomputable def way : FuncId → Nat := fun f => (@Bool.rec (fun _ => Nat) (@Bool.rec (fun _ => Nat) (@Bool.rec (fun _ => Nat) (@Bool.rec (fun _ => Nat) (@Bool.rec (fun _ => Nat) 0 2 (Nat.beq f 400)) 1 (Nat.beq f 350)) 1 (Nat.beq f 307)) 3 (Nat.beq f 137)) 1 (Nat.beq f 59))
def kinds0 : List (List UInt8 × List FuncId) := [([], []), ([98, 101, 103, 105, 110], [454, 455]), ([108, 111, 111, 107], [422, 455]), ([108, 111, 97, 100], [422, 456]), ([108, 111, 99, 107], [422]), ([98, 117, 109, 112], [455]), ([99, 104, 101, 99, 107], [422]), ([99, 111, 109, 109, 105, 116], [455]), ([115, 116, 111, 114, 101], [422, 456]), ([102, 114, 101, 101], [422]), ([97, 98, 111, 114, 116], [457, 422]), ([117, 110, 100, 111], [422]), ([119, 97, 105, 116], []), ([119, 97, 107, 101], [])]
def table0 : List (Option FuncId) := [none, none, none, none, (some 458), (some 459), (some 460), (some 461), (some 463)]
def ints0 : List Int := [0, 1, 28, 2, 29, 14, 24, 3, 30, 22, 20, 15, 25, 17, 4, 8, 31, 27, 13, 23, 21, 19, 16, 7, 26, 12, 18, 6, 11, 5, 10, 9]
noncomputable def intCells0 : List AV := ints0.map fun n => AV.int .u8 n
noncomputable def tableCells : List AV := table0.map entryAV
def nx0 : Nat := 270
def known0 : List Nat := [3, 1, 0, 256, 257, 258, 259, 260, 261, 262, 263, 264, 265, 266, 267, 268, 269]
noncomputable def heapK : Tr AObj := (rowsHeap globs (kinds0.map (·.2)) .nil).put 0 (some (.ro (kindCells globs kinds0).length (Tr.fill (kindCells globs kinds0) 0 .nil)))
noncomputable def heapI0 : Tr AObj := heapK.put 1 (some (.ro intCells0.length (Tr.fill intCells0 0 .nil)))
noncomputable def heap0 : Tr AObj := heapI0.put 3 (some (.ro tableCells.length (Tr.fill tableCells 0 .nil)))
noncomputable def call0 : Caller := arun Tryz.prog way 60
noncomputable def call : Caller := call0
noncomputable def bodyF4 : Code := Tryz.f4.body.getD .skip
noncomputable def bodyF9 : Code := Tryz.f9.body.getD .skip
noncomputable def fr0 : AF := ⟨4, fillArgs [], max Tryz.f4.ntmps 0, [.code bodyF4], [], none⟩
noncomputable def st0 : AS := ⟨heap0, nx0, 0, [], []⟩
end Go.Proofs.YtbnjeblcleihkaaGreatDoor.auditCounted
