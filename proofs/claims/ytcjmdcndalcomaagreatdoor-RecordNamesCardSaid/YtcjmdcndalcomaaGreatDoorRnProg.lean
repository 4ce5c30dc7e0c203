/- Is a program's code such that every region whose row is drawn is sound? One closed test. -/
import Derived.Test.YtcjmdcndalcomaaGreatDoorRnClosed
import Derived.CheckFast
namespace Go.Rn

def edgesB (ops : Array Oper) : Bool := ops.toList.zipIdx.all fun x => x.1.after.toList.all fun e => !Region.binds .any e || decide (e.on < x.2)
def clash (ops : Array Oper) (x y : Oper) : Bool :=
  match x.dst with
  | none => false
  | some d => (y.looksAt ops).contains d || y.dst == some d
def slotsB (ops : Array Oper) (b : Array Nat) : Bool :=
  ops.toList.zipIdx.all fun x => ops.toList.zipIdx.all fun y => !(clash ops x.1 y.1) || (Nat.beq x.2 y.2 || !loose b x.2 y.2)
def regB (ops : Array Oper) : Bool := edgesB ops && slotsB ops (CheckFast.beforeF ops)
def codeOkB : Code → Bool
  | .seq a b => codeOkB a && codeOkB b
  | .cond _ a b => codeOkB a && codeOkB b
  | .block _ b => codeOkB b
  | .loop b => codeOkB b
  | .scope b => codeOkB b
  | .region _ ops draw => !draw || regB ops
  | .rangeFunc _ _ a b => codeOkB a && codeOkB b
  | _ => true
def progB (P : Program) : Bool := P.funcs.toList.all fun fn => match fn.body with
  | none => true
  | some c => codeOkB c

theorem zipIdx_mem {ops : Array Oper} {i : Nat} {o : Oper} (h : ops[i]? = some o) : (o, i) ∈ ops.toList.zipIdx := by
  rw [List.mem_zipIdx_iff_getElem?]; simpa using h
theorem regB_ok {ops : Array Oper} (h : regB ops = true) : RegOk ops := by
  unfold regB at h
  obtain ⟨h1, h2⟩ := Bool.and_eq_true_iff.1 h
  rw [CheckFast.beforeF_eq] at h2
  refine ⟨fun j o e ho hm hb => ?_, fun i j x y d hij hx hy hd hor => ?_⟩
  · have := List.all_eq_true.1 (List.all_eq_true.1 h1 _ (zipIdx_mem ho)) e (Array.mem_toList_iff.2 hm)
    simp only [hb, Bool.not_true, Bool.false_or, decide_eq_true_eq] at this
    exact this
  · have := List.all_eq_true.1 (List.all_eq_true.1 h2 _ (zipIdx_mem hx)) _ (zipIdx_mem hy)
    have hc : clash ops x y = true := by
      unfold clash
      rw [hd]
      simp only [Bool.or_eq_true, beq_iff_eq]
      rcases hor with q | q
      · exact .inl (List.contains_iff_mem.2 q)
      · exact .inr q
    simp only [hc, Bool.not_true, Bool.false_or, Bool.or_eq_true, Bool.not_eq_true'] at this
    rcases this with q | q
    · exact absurd (Nat.beq_eq.mp q) hij
    · exact q
theorem codeOkB_ok : ∀ {c : Code}, codeOkB c = true → CodeOk c := by
  intro c
  induction c with
  | seq a b iha ihb => intro h; obtain ⟨h1, h2⟩ := Bool.and_eq_true_iff.1 h; exact ⟨iha h1, ihb h2⟩
  | cond _ a b iha ihb => intro h; obtain ⟨h1, h2⟩ := Bool.and_eq_true_iff.1 h; exact ⟨iha h1, ihb h2⟩
  | block _ b ih => intro h; exact ih h
  | loop b ih => intro h; exact ih h
  | scope b ih => intro h; exact ih h
  | region id ops draw => intro h hd; subst hd; exact regB_ok h
  | rangeFunc _ _ a b iha ihb => intro h; obtain ⟨h1, h2⟩ := Bool.and_eq_true_iff.1 h; exact ⟨iha h1, ihb h2⟩
  | _ => intro _; trivial
theorem progOk_of {P : Program} (hm : P.follows .mixedOrders = true) (h : progB P = true) : ProgOk P := by
  refine ⟨hm, fun f fn body hf hb => ?_⟩
  have := List.all_eq_true.1 h fn (List.mem_of_getElem? (by simpa using hf))
  rw [hb] at this
  exact codeOkB_ok this
theorem noWays (P : Program) (B : Nat) : WaysOk P B (fun _ => 0) := by
  intro n f h
  rcases h with h | h | h <;> cases h
end Go.Rn
