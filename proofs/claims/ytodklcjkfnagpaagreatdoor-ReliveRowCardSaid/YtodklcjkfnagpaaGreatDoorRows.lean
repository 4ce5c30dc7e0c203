/-
  NARROWER THAN 'FOR EVERY INPUT', by the rows' own cells (each row's printed sentence says how): ReliveRow: laid.
  DERIVED. THE GIVEN ROWS OF THIS SEAT. 1 by the template 'for every input the law returns true; each argument reads behind the call as it read before'; 0 by the template 'total and deterministic' (their statements: YtodklcjkfnagpaaGreatDoorTotals.lean).
  GIVEN WITH THE SEED: the statements are not yours to turn. If you find one false, say at which input.
  Laid BY PROGRAM, IN A SANDBOX (cutbox-rows.mjs): the forced cells as the released guide's own fill.sh prints them over the translation e58692d4fc7a5ae4… (all of the seat's roots in one cut). By AI agents, Wed Nov 11 2026. No macro, syntax, notation, axiom, sorry.
-/
import Derived.Test.YtodklcjkfnagpaaGreatDoorChecked
import GoSem.Claim
import GoSem.ClaimJoined
import GoSem.ClaimMapViews
import Derived.JoinedTies
import Derived.KernelRfl
namespace Go.Proofs.YtodklcjkfnagpaaGreatDoor
/- THE CELL 'sum', in the pinned program and in every row, IS THE sha256 OF THE DUMP (.gsa) THAT YtodklcjkfnagpaaGreatDoorProg.lean LOADS. Nothing in Lean hashes anything: it is a label: what it is worth is what the hold of that sum in a sandbox is worth. -/
noncomputable def Tryz.pinned : Pinned := { name := "ytodklcjkfnagpaagreatdoor", sum := "e58692d4fc7a5ae4ff390893b10b84b0c5461b679dfe87305fbef72849fe9f43", checked := Tryz.checked }
namespace Rows
def none {H : Type} : Left H := { results := [], args := [] }

/- WHAT THE LISTED PACKAGE-LEVEL VARIABLES READ AS WHEN THE CALL BEGINS. Each datum BY PROGRAM (the guide's laid-datum.mjs) off the statement by which the dump's own 'gosem.cut.vars' lays the variable. In a bare row this is a premise. The card (YtodklcjkfnagpaaGreatDoorCards.lean) ties it to the program's text. -/
def laid_seesaw_expr_operators {H : Type} : DataW H := .iface "func table" (.agg [.nil, .nil, .nil, .nil, .iface "func" (.lit (.string [115, 101, 101, 115, 97, 119, 47, 101, 120, 112, 114, 46, 111, 112, 101, 114, 97, 116, 111, 114, 115, 36, 49])), .iface "func" (.lit (.string [115, 101, 101, 115, 97, 119, 47, 101, 120, 112, 114, 46, 111, 112, 101, 114, 97, 116, 111, 114, 115, 36, 50])), .iface "func" (.lit (.string [115, 101, 101, 115, 97, 119, 47, 101, 120, 112, 114, 46, 111, 112, 101, 114, 97, 116, 111, 114, 115, 36, 51])), .iface "func" (.lit (.string [115, 101, 101, 115, 97, 119, 47, 101, 120, 112, 114, 46, 111, 112, 101, 114, 97, 116, 111, 114, 115, 36, 52])), .iface "func" (.lit (.string [115, 101, 101, 115, 97, 119, 47, 101, 120, 112, 114, 46, 111, 112, 101, 114, 97, 116, 111, 114, 115, 36, 53]))])

/-- 'seesawlaw30.ReliveRow': WHATEVER THE INPUT: true; the input reads as it did. -/
def reliveRowSpec : ChangeSpec := { name := "reliveRow", fn := fun _ => fun
  | [d1, d2] => { results := [.lit (.bool true)], args := [d1, d2] }
  | _ => none }
def reliveRowRow : OpenClaim := { program := "ytodklcjkfnagpaagreatdoor", sum := "e58692d4fc7a5ae4ff390893b10b84b0c5461b679dfe87305fbef72849fe9f43", func := "seesaw/seesawlaw30.ReliveRow", spec := "reliveRow", unfollowed := true, recurses := true, named := ["seesaw/expr.operators"], plainKeys := false, apart := false, laid := [("seesaw/expr.operators", laid_seesaw_expr_operators)] }
def ReliveRowSaid : Prop := reliveRowRow.holds Tryz.pinned (OpenSpec.ofChange reliveRowSpec)

/-- ITS FALSE NEIGHBOUR: 'it returns false'. Refute it at one input. -/
def reliveRowWrong : ChangeSpec := { name := "reliveRow", fn := fun _ => fun
  | [d1, d2] => { results := [.lit (.bool false)], args := [d1, d2] }
  | _ => none }
def ReliveRowWrongFalsely : Prop := reliveRowRow.holds Tryz.pinned (OpenSpec.ofChange reliveRowWrong)

/- THE SECOND FORM. 'bulk': how many values and letters a reading holds, each counted each time it is reached (what is shared counts as often as it is met; a slice's spare places count too). A statement '..UptoSaid' is the law's where the arguments, and the package variables that the reading takes, are together of bulk at most 1048576: NARROWER than '..Said'. Prove '..Said' where nothing that the law and all that it calls make is longer than what came in: it says more and counts as full. Else prove '..UptoSaid'. A law counts once. -/
mutual
def uptoBulk {H : Type} : DataW H → Nat
  | .lit (.string bytes) => bytes.length + 1
  | .lit _ => 1
  | .nil => 1
  | .ptr d => uptoBulk d + 1
  | .slice elems spare => uptoBulkAll elems + uptoBulkAll spare + 1
  | .agg parts => uptoBulkAll parts + 1
  | .iface _ d => uptoBulk d + 1
  | .map entries => uptoBulkEntries entries + 1
  | .held _ => 1
def uptoBulkAll {H : Type} : List (DataW H) → Nat
  | [] => 0
  | d :: r => uptoBulk d + uptoBulkAll r
def uptoBulkEntries {H : Type} : List (Lit × DataW H) → Nat
  | [] => 0
  | x :: r => uptoBulkEntry x + uptoBulkEntries r
def uptoBulkEntry {H : Type} : Lit × DataW H → Nat
  | (.string bytes, d) => bytes.length + uptoBulk d + 1
  | (_, d) => uptoBulk d + 1
 end
def uptoSmall : (H : Type) → List (DataW H) → Bool := fun _ ds => decide (uptoBulkAll ds ≤ 1048576)
def OpenSpec.upto (s : _root_.Go.ChangeSpec) : _root_.Go.OpenSpec := { _root_.Go.OpenSpec.ofChange s with cond := some uptoSmall }

/-- 'seesawlaw30.ReliveRow', WHERE WHAT IT READS IS OF BULK AT MOST 1048576: true; the input reads as it did. -/
def reliveRowUptoRow : OpenClaim := { program := "ytodklcjkfnagpaagreatdoor", sum := "e58692d4fc7a5ae4ff390893b10b84b0c5461b679dfe87305fbef72849fe9f43", func := "seesaw/seesawlaw30.ReliveRow", spec := "reliveRow", unfollowed := true, recurses := true, named := ["seesaw/expr.operators"], plainKeys := false, apart := false, laid := [("seesaw/expr.operators", laid_seesaw_expr_operators)], narrowed := true }
def ReliveRowUptoSaid : Prop := reliveRowUptoRow.holds Tryz.pinned (OpenSpec.upto reliveRowSpec)

end Rows
end Go.Proofs.YtodklcjkfnagpaaGreatDoor
