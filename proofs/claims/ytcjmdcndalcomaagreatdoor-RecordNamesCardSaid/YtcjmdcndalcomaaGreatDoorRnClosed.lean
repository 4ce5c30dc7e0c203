/- A call of closed code: from what the evaluator says to what the model does, in every world in which the variables hold what they hold. -/
import Derived.Test.YtcjmdcndalcomaaGreatDoorRnWay2
namespace Go.Rn
open Go.RowKit

/-- The names of the package's variables, at the start. -/
def startRen (W : World) : Ren := fun k => if k < globs then some (k, match W.heap[k]? with | some (.cells c _ _) => c.size | _ => 0) else none
theorem startRen_g (W : World) : RenG (startRen W) := fun g hg => ⟨_, by unfold startRen; rw [if_pos hg]⟩
theorem startRen_none (W : World) {k : Nat} (h : globs ≤ k) : startRen W k = none := by unfold startRen; rw [if_neg (by omega)]

/-- What is known of the package's variables when the call begins. -/
def Known (W : World) (h : Tr AObj) : Prop :=
  ∀ n o, n < top → h.get n = some o → n < globs ∧ ∃ m t c e fr, o = .ro m t ∧ W.heap[n]? = some (.cells c e fr) ∧ m ≤ c.size ∧ ∀ i, i < m → ∃ x v, t.get i = some x ∧ x.oneCell = true ∧ c[i]? = some v ∧ VR (startRen W) x v

theorem start_rel {W : World} {h : Tr AObj} (hk : Known W h) : Rel W.heap.size (startRen W) h W := by
  refine ⟨?_, ?_, ?_, Nat.le_refl _, ?_⟩
  · intro n o hn hg
    obtain ⟨h1, m, t, c, e, fr, rfl, h2, h3, h4⟩ := hk n o hn hg
    refine ⟨n, c.size, _, by unfold startRen; rw [if_pos h1, h2], h2, ⟨c, e, fr, rfl, rfl, h3, h4⟩, fun q => by cases q⟩
  · intro n m o p b N M hn hm h1 h2 e1 e2
    obtain ⟨q1, _⟩ := hk n o hn h1
    obtain ⟨q2, _⟩ := hk m p hm h2
    unfold startRen at e1 e2
    rw [if_pos q1] at e1; rw [if_pos q2] at e2
    cases e1
    injection e2 with e2
    injection e2 with e2 _
    exact e2.symm
  · intro n m es ex left cur hn hg
    obtain ⟨_, m', t, c, e, fr, e1, _⟩ := hk n _ hn hg
    cases e1
  · intro i j m es ex left cur es' ex' left' cur' hi _ h1 _
    obtain ⟨_, m', t, c, e, fr, e1, _⟩ := hk i _ hi h1
    cases e1

theorem closed_calls {P : Program} (hP : ProgOk P) {way : FuncId → Nat} {W : World} (hw : WaysOk P W.heap.size way) {f : FuncId} {fn : Func} {body : Code} (hfn : P.funcs[f]? = some fn) (hbody : fn.body = some body) (hname : (fn.name == "runtime.NumGoroutine") = false)
    {n : Nat} {h : Tr AObj} {x : AV} {s1 : AS} (hk : Known W h) (hrun : arun P way n (.fn f) [] ⟨h, globs, 0, [], []⟩ = .ok x s1) :
    Calls P f #[] W fun e w' => ∃ v, e = .returned v ∧ (∃ σ, VR σ x v) ∧ Below W.heap.size W w' := by
  have fi : Fine (⟨h, globs, 0, [], []⟩ : AS) := ⟨Nat.zero_le _, (by unfold globs top; decide : globs ≤ top)⟩
  have hb := (arun_sim hP hw n).fn f [] x ⟨h, globs, 0, [], []⟩ s1 (startRen W) W #[] fi (start_rel hk) (startRen_g W) (fun k h1 _ => startRen_none W h1) hrun (by simp [VRs])
  have hcall : (callFunc f #[]).run P W = .ok (.enter f #[]) W := by
    have hprog : (program).run P W = .ok P W := rfl
    have hn : fn.name ≠ "runtime.NumGoroutine" := by simpa using hname
    simp only [callFunc, Sem.run_bind, hprog, Result.andThen_ok, hfn, hname, hbody]
    simp
  rw [hcall] at hb
  refine Calls.mono hb fun e w' => ?_
  rintro ⟨v, rfl, σ, _, h2, _, h4⟩
  exact ⟨v, rfl, ⟨σ, h2⟩, h4⟩
end Go.Rn
