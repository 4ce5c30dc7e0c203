/-
  NARROWER THAN 'FOR EVERY INPUT', by the rows' own cells (each row's printed sentence says how): AtomicOne: loops, laid.
  DERIVED. THE GIVEN ROWS OF THIS SEAT. 1 by the template 'for every input the law returns true; each argument reads behind the call as it read before'; 0 by the template 'total and deterministic' (their statements: YtjcfiaeoopphoaaDoorTotals.lean).
  GIVEN WITH THE SEED: the statements are not yours to turn. If you find one false, say at which input.
  Laid BY PROGRAM, IN A SANDBOX (cutbox-rows.mjs): the forced cells as the released guide's own fill.sh prints them over the translation 39cf4b13be1b6c32… (all of the seat's roots in one cut). By AI agents, Wed Nov 11 2026. No macro, syntax, notation, axiom, sorry.
-/
import Derived.Test.YtjcfiaeoopphoaaDoorChecked
import GoSem.Claim
import GoSem.ClaimJoined
import GoSem.ClaimMapViews
import Derived.JoinedTies
import Derived.KernelRfl
namespace Go.Proofs.YtjcfiaeoopphoaaDoor
/- THE CELL 'sum', in the pinned program and in every row, IS THE sha256 OF THE DUMP (.gsa) THAT YtjcfiaeoopphoaaDoorProg.lean LOADS. Nothing in Lean hashes anything: it is a label: what it is worth is what the hold of that sum in a sandbox is worth. -/
noncomputable def Tryd.pinned : Pinned := { name := "ytjcfiaeoopphoaadoor", sum := "39cf4b13be1b6c32b58c16c99c22ed25b4a39bfe4f3f64a18fac06998ecbf604", checked := Tryd.checked }
namespace Rows
def none {H : Type} : Left H := { results := [], args := [] }

/- WHAT THE LISTED PACKAGE-LEVEL VARIABLES READ AS WHEN THE CALL BEGINS. Each datum BY PROGRAM (the guide's laid-datum.mjs) off the statement by which the dump's own 'gosem.cut.vars' lays the variable. In a bare row this is a premise. The card (YtjcfiaeoopphoaaDoorCards.lean) ties it to the program's text. -/
def laid_seesaw_expr_operators {H : Type} : DataW H := .iface "func table" (.agg [.nil, .nil, .nil, .nil, .iface "func" (.lit (.string [115, 101, 101, 115, 97, 119, 47, 101, 120, 112, 114, 46, 111, 112, 101, 114, 97, 116, 111, 114, 115, 36, 49])), .iface "func" (.lit (.string [115, 101, 101, 115, 97, 119, 47, 101, 120, 112, 114, 46, 111, 112, 101, 114, 97, 116, 111, 114, 115, 36, 50])), .iface "func" (.lit (.string [115, 101, 101, 115, 97, 119, 47, 101, 120, 112, 114, 46, 111, 112, 101, 114, 97, 116, 111, 114, 115, 36, 51])), .iface "func" (.lit (.string [115, 101, 101, 115, 97, 119, 47, 101, 120, 112, 114, 46, 111, 112, 101, 114, 97, 116, 111, 114, 115, 36, 52])), .iface "func" (.lit (.string [115, 101, 101, 115, 97, 119, 47, 101, 120, 112, 114, 46, 111, 112, 101, 114, 97, 116, 111, 114, 115, 36, 53]))])

/-- 'seesawlaw22.AtomicOne': WHATEVER THE INPUT: true; the input reads as it did. -/
def atomicOneSpec : ChangeSpec := { name := "atomicOne", fn := fun _ => fun
  | [d1, d2] => { results := [.lit (.bool true)], args := [d1, d2] }
  | _ => none }
def atomicOneRow : OpenClaim := { program := "ytjcfiaeoopphoaadoor", sum := "39cf4b13be1b6c32b58c16c99c22ed25b4a39bfe4f3f64a18fac06998ecbf604", func := "seesaw/seesawlaw22.AtomicOne", spec := "atomicOne", unfollowed := true, recurses := true, named := ["seesaw/expr.operators"], loops := true, apart := false, laid := [("seesaw/expr.operators", laid_seesaw_expr_operators)] }
def AtomicOneSaid : Prop := atomicOneRow.holds Tryd.pinned (OpenSpec.ofChange atomicOneSpec)

/-- ITS FALSE NEIGHBOUR: 'it returns false'. Refute it at one input. -/
def atomicOneWrong : ChangeSpec := { name := "atomicOne", fn := fun _ => fun
  | [d1, d2] => { results := [.lit (.bool false)], args := [d1, d2] }
  | _ => none }
def AtomicOneWrongFalsely : Prop := atomicOneRow.holds Tryd.pinned (OpenSpec.ofChange atomicOneWrong)

/- THE SECOND FORM. 'bulk': how many values and letters a reading holds, each counted each time it is reached (what is shared counts as often as it is met; a slice's spare places count too). A statement '..UptoSaid' is the law's where the arguments, and the package variables that the reading takes, are together of bulk at most 1048576: NARROWER than '..Said'. Prove '..Said' where nothing that the law and all that it calls make is longer than what came in: it says more and counts as full. Else prove '..UptoSaid'. A law counts once. -/
mutual
def uptoBulk {H : Type} : DataW H → Nat
  | .lit (.string bytes) => bytes.length + 1
  | .lit _ => 1
  | .nil => 1
  | .ptr d => uptoBulk d + 1
  | .slice elems spare => uptoBulkAll elems + uptoBulkAll spare + 1
  | .agg parts => uptoBulkAll parts + 1
  | .iface _ d => uptoBulk d + 1
  | .map entries => uptoBulkEntries entries + 1
  | .held _ => 1
def uptoBulkAll {H : Type} : List (DataW H) → Nat
  | [] => 0
  | d :: r => uptoBulk d + uptoBulkAll r
def uptoBulkEntries {H : Type} : List (Lit × DataW H) → Nat
  | [] => 0
  | x :: r => uptoBulkEntry x + uptoBulkEntries r
def uptoBulkEntry {H : Type} : Lit × DataW H → Nat
  | (.string bytes, d) => bytes.length + uptoBulk d + 1
  | (_, d) => uptoBulk d + 1
 end
def uptoSmall : (H : Type) → List (DataW H) → Bool := fun _ ds => decide (uptoBulkAll ds ≤ 1048576)
def OpenSpec.upto (s : _root_.Go.ChangeSpec) : _root_.Go.OpenSpec := { _root_.Go.OpenSpec.ofChange s with cond := some uptoSmall }

/-- 'seesawlaw22.AtomicOne', WHERE WHAT IT READS IS OF BULK AT MOST 1048576: true; the input reads as it did. -/
def atomicOneUptoRow : OpenClaim := { program := "ytjcfiaeoopphoaadoor", sum := "39cf4b13be1b6c32b58c16c99c22ed25b4a39bfe4f3f64a18fac06998ecbf604", func := "seesaw/seesawlaw22.AtomicOne", spec := "atomicOne", unfollowed := true, recurses := true, named := ["seesaw/expr.operators"], loops := true, apart := false, laid := [("seesaw/expr.operators", laid_seesaw_expr_operators)], narrowed := true }
def AtomicOneUptoSaid : Prop := atomicOneUptoRow.holds Tryd.pinned (OpenSpec.upto atomicOneSpec)

end Rows
end Go.Proofs.YtjcfiaeoopphoaaDoor
