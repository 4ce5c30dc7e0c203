/-
  Proved here: no function of the program starts a goroutine.
  Conditions: none.
-/
import Derived.Test.YtbnjeblcleihkaaGreatDoorProg
import Derived.SevenTiedAt
namespace Go.Proofs.YtbnjeblcleihkaaGreatDoor.auditCounted
open Go
set_option maxRecDepth 100000
theorem noGoes : (Tryz.prog.funcs.toList.all fun fn => !fn.goes) = true := by kernel_rfl
theorem goes_none {P : Program} (h : (P.funcs.toList.all fun fn => !fn.goes) = true) (f : FuncId) : P.goes f = false := by
  have hall : ∀ fn ∈ P.funcs.toList, fn.goes = false := fun fn hm => by
    have := List.all_eq_true.1 h fn hm
    simpa using this
  have one : ∀ g : FuncId, (P.funcs[g]?).any Func.goes = false := fun g => by
    cases hg : P.funcs[g]? with
    | none => rfl
    | some fn => exact hall fn (Array.mem_toList_iff.2 (Array.mem_of_getElem? hg))
  have a1 : ((P.closure f).any fun g => (P.funcs[g]?).any Func.goes) = false := by
    rw [List.any_eq_false]; intro g _; rw [one g]; simp
  have a2 : P.funcs.any Func.goes = false := by
    rw [← Array.any_toList, List.any_eq_false]; intro fn hm; rw [hall fn hm]; simp
  unfold Program.goes
  rw [a1, a2]; simp
theorem goes_by {P : Program} (h : (P.funcs.toList.all fun fn => !fn.goes) = true) {c : OpenClaim} (hs : c.start = .entering) : false = c.goesBy P := by
  unfold OpenClaim.goesBy Program.goesAt Program.goesFrom
  rw [hs]
  cases P.funcNamed c.func with
  | none => rfl
  | some f => show false = (P.goes f || false); rw [goes_none h f]; rfl
end Go.Proofs.YtbnjeblcleihkaaGreatDoor.auditCounted
