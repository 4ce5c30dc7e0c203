/-
  Proved here: nothing yet: the words in which the segments of the closed statement's call are told (what is known at the start; frames and memory between segments).
  Conditions: none.
-/
import Derived.Test.YtadcegpdegpnmaaGreatDoorRows
import Derived.Test.YtadcegpdegpnmaaGreatDoorRnSegA
import Derived.KernelRfl
namespace Go.Proofs.YtadcegpdegpnmaaGreatDoor.divergeTexts
open Go.RowKit Go.Rn
set_option maxRecDepth 100000

/-- Functions that go through maps in an open row, and maps.clone. -/
noncomputable def way : FuncId → Nat := fun f => (@Bool.rec (fun _ => Nat) (@Bool.rec (fun _ => Nat) (@Bool.rec (fun _ => Nat) (@Bool.rec (fun _ => Nat) 0 1 (Nat.beq f 217)) 2 (Nat.beq f 215)) 1 (Nat.beq f 214)) 3 (Nat.beq f 24))
def kinds0 : List (List UInt8 × List FuncId) := [([], []), ([98, 101, 103, 105, 110], [310, 311]), ([108, 111, 111, 107], [259, 311]), ([108, 111, 97, 100], [259, 312]), ([108, 111, 99, 107], [259]), ([98, 117, 109, 112], [311]), ([99, 104, 101, 99, 107], [259]), ([99, 111, 109, 109, 105, 116], [311]), ([115, 116, 111, 114, 101], [259, 312]), ([102, 114, 101, 101], [259]), ([97, 98, 111, 114, 116], [313, 259]), ([117, 110, 100, 111], [259]), ([119, 97, 105, 116], []), ([119, 97, 107, 101], [])]
def table0 : List (Option FuncId) := [none, none, none, none, (some 314), (some 315), (some 316), (some 317), (some 319)]
def ints0 : List Int := [0, 1, 28, 2, 29, 14, 24, 3, 30, 22, 20, 15, 25, 17, 4, 8, 31, 27, 13, 23, 21, 19, 16, 7, 26, 12, 18, 6, 11, 5, 10, 9]
noncomputable def intCells0 : List AV := ints0.map fun n => AV.int .u8 n
def ints1 : List Int := [0, 1, 56, 2, 57, 49, 28, 3, 61, 58, 42, 50, 38, 29, 17, 4, 62, 47, 59, 36, 45, 43, 51, 22, 53, 39, 33, 30, 24, 18, 12, 5, 63, 55, 48, 27, 60, 41, 37, 16, 46, 35, 44, 21, 52, 32, 23, 11, 54, 26, 40, 15, 34, 20, 31, 10, 25, 14, 19, 9, 13, 8, 7, 6]
noncomputable def intCells1 : List AV := ints1.map fun n => AV.int .u8 n
def ints2 : List Int := [1, 10, 100, 1000, 10000, 100000, 1000000, 10000000, 100000000, 1000000000, 10000000000, 100000000000, 1000000000000, 10000000000000, 100000000000000, 1000000000000000, 10000000000000000, 100000000000000000, 1000000000000000000, 10000000000000000000]
noncomputable def intCells2 : List AV := ints2.map fun n => AV.int .u64 n
noncomputable def tableCells : List AV := table0.map entryAV
def nx0 : Nat := 270
def known0 : List Nat := [6, 4, 5, 2, 0, 256, 257, 258, 259, 260, 261, 262, 263, 264, 265, 266, 267, 268, 269]
noncomputable def heapK : Tr AObj := (rowsHeap globs (kinds0.map (·.2)) .nil).put 0 (some (.ro (kindCells globs kinds0).length (Tr.fill (kindCells globs kinds0) 0 .nil)))
noncomputable def heapI0 : Tr AObj := heapK.put 4 (some (.ro intCells0.length (Tr.fill intCells0 0 .nil)))
noncomputable def heapI1 : Tr AObj := heapI0.put 5 (some (.ro intCells1.length (Tr.fill intCells1 0 .nil)))
noncomputable def heapI2 : Tr AObj := heapI1.put 2 (some (.ro intCells2.length (Tr.fill intCells2 0 .nil)))
noncomputable def heap0 : Tr AObj := heapI2.put 6 (some (.ro tableCells.length (Tr.fill tableCells 0 .nil)))
noncomputable def call0 : Caller := arun Tryz.prog way 60
noncomputable def call : Caller := call0
noncomputable def bodyF4 : Code := Tryz.f4.body.getD .skip
noncomputable def fr0 : AF := ⟨4, fillArgs [], max Tryz.f4.ntmps 0, [.code bodyF4], [], none⟩
noncomputable def st0 : AS := ⟨heap0, nx0, 0, [], []⟩
def strs0 : List (List UInt8) := [[], [98, 101, 103, 105, 110], [108, 111, 111, 107], [108, 111, 97, 100], [108, 111, 99, 107], [98, 117, 109, 112], [99, 104, 101, 99, 107], [99, 111, 109, 109, 105, 116], [115, 116, 111, 114, 101], [102, 114, 101, 101], [97, 98, 111, 114, 116], [117, 110, 100, 111], [119, 97, 105, 116], [119, 97, 107, 101]]
noncomputable def strCells0 : List AV := strs0.map fun b => AV.str ⟨b.toArray⟩
def known1 : List Nat := [1, 6, 4, 5, 2, 0, 256, 257, 258, 259, 260, 261, 262, 263, 264, 265, 266, 267, 268, 269]
noncomputable def heap1 : Tr AObj := (heap0.put 1 (some (.ro strCells0.length (Tr.fill strCells0 0 .nil))))
end Go.Proofs.YtadcegpdegpnmaaGreatDoor.divergeTexts
