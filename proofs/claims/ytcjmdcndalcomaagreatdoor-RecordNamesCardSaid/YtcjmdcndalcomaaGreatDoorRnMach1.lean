/- Calls: what comes back from them; each operation. -/
import Derived.Test.YtcjmdcndalcomaaGreatDoorRnSim14
import Derived.AtR
namespace Go.Rn
open Go.RowKit

/-- A round of a range over a function comes back. -/
def Rounds (P : Program) (l : Nat) (f : FuncId) (tmps : Array Value) (assign body : Code) (w : World) (R : Value → World → Prop) : Prop :=
  ∀ (c : Frame) (cs : List Frame), ∃ v w', R v w' ∧ Steps P (lone (Frame.round l f tmps assign body .normal) (c :: cs) w) (lone (c.finish v) cs w')

/-- What an operation, or a call, comes back with. -/
def Back (P : Program) (r : Result Next) (R : Value → World → Prop) : Prop :=
  match r with
  | .ok (.value v) w => R v w
  | .ok .skip w => R undef w
  | .ok (.enter f args) w => Calls P f args w fun e w' => ∃ v, e = .returned v ∧ R v w'
  | .ok (.round l f tmps assign body) w => Rounds P l f tmps assign body w R
  | _ => False

/-- What is known of what came back. -/
def Came (B : Nat) (ρ : Ren) (s s1 : AS) (w : World) (x : AV) : Value → World → Prop :=
  fun v w' => ∃ σ, Ext s.nx s1.nx ρ σ ∧ VR σ x v ∧ Rel B σ s1.h w' ∧ Below B w w'

/-- A caller under names is one. -/
structure CallSim (P : Program) (B : Nat) (call : Caller) : Prop where
  fn : ∀ (f : FuncId) (args : List AV) (x : AV) (s s1 : AS) (ρ : Ren) (w : World) (vs : Array Value), Fine s → Rel B ρ s.h w → RenG ρ → Free s.nx s1.nx ρ → call (.fn f) args s = .ok x s1 → VRs ρ args vs.toList →
    Back P ((callFunc f vs).run P w) (Came B ρ s s1 w x)
  round : ∀ (l b N : Nat) (args : List AV) (x : AV) (s s1 : AS) (ρ : Ren) (w : World) (vs : Array Value), Fine s → Rel B ρ s.h w → RenG ρ → Free s.nx s1.nx ρ → call (.round l) args s = .ok x s1 → VRs ρ args vs.toList →
    ρ l = some (b, N) → Back P ((Instr.yield b vs).run P w) (Came B ρ s s1 w x)

section
variable {P : Program} {B : Nat} {ρ : Ren} {w : World} {s s1 : AS} {x : AV} {call : Caller} {t : Tr AV} {ev : Operand → Value} {o : Oper}

theorem SimOp.back {c : Sem Next} (h : SimOp P B ρ s s1 w x c) : Back P (c.run P w) (Came B ρ s s1 w x) := by
  obtain ⟨σ, w', nv, a, b, d, e, f⟩ := h
  rw [b]
  cases nv <;> first | (cases d; done) | skip
  · exact ⟨σ, a, d, e, f⟩
  · exact ⟨σ, a, by rw [d]; exact VR.undef σ, e, f⟩

theorem VR.func_inv {f : Fn} {a c : List AV} {v : Value} (h : VR ρ (.func f a c) v) : plainFn f = true ∧ ∃ p q, v = .func f p q ∧ VRs ρ a p.toList ∧ VRs ρ c q.toList := by
  simpa only [VR] using h

theorem sim_kCall {y : Operand} {args : Array Operand} {ts : Array TypeId} (hc : CallSim P B call) (he : ∀ x v, opd t x = some v → VR ρ v (ev x)) (hg : RenG ρ) (fi : Fine s) (r : Rel B ρ s.h w) (hf : Free s.nx s1.nx ρ)
    (h : kCall y args.toList call t s = .ok x s1) (ho : o.op = .call ⟨.value y, args, ts⟩) : Back P ((execOp ev o).run P w) (Came B ρ s s1 w x) := by
  unfold kCall at h
  obtain ⟨l, h1, h2⟩ := withO_inv h
  obtain ⟨f, h3, h4⟩ := withO_inv h2
  have hl := opds_sim he h1
  have hfv := he y f h3
  unfold callV at h4
  split at h4
  · rename_i g first captured
    obtain ⟨_, p, q, e, hp, hq⟩ := hfv.func_inv
    have hargs : VRs ρ (first ++ l ++ captured) (p ++ args.map ev ++ q).toList := by
      rw [Array.toList_append, Array.toList_append]
      exact (hp.append (by simpa using hl)).append hq
    have := hc.fn g _ x s s1 ρ w _ fi r hg hf h4 hargs
    simp only [execOp, ho, resolve, Deferred.ofValue, e, Sem.run_bind, Sem.run_pure, Result.andThen_ok, invoke]
    exact this
  · rename_i n
    have hv' := hfv
    simp only [VR] at hv'
    obtain ⟨b, N, hn, e⟩ := hv'
    have := hc.round n b N _ x s s1 ρ w (args.map ev) fi r hg hf h4 (by simpa using hl) hn
    simp only [execOp, ho, resolve, Deferred.ofValue, e, Sem.run_bind, Sem.run_pure, Result.andThen_ok, invoke]
    simpa using this
  · cases h4

theorem method_sim {ty : TypeId} {name : String} {f : FuncId} {v : Value} {k : Nat} (h : methodT P ty name = some f) : (Go.method (k + 1) ty v name).run P w = .ok (f, v) w := by
  unfold methodT at h
  cases e1 : P.info? ty with
  | none => rw [e1] at h; cases h
  | some i =>
    simp only [e1] at h
    cases e2 : i.methods.toList.find? (·.name == name) with
    | none => simp only [e2] at h; cases h
    | some m =>
      simp only [e2] at h
      have e3 : i.methods.find? (·.name == name) = some m := by rw [← Array.find?_toList]; exact e2
      split at h
      · rename_i g ptr hp hm
        have hpath : m.path.toList = [] := by
          have : m.path = #[] := by simpa using hp
          rw [this]
        have hrecv : (receiverAt ty (.val v) ptr (if m.path.isEmpty = true then some ((name.splitOn ".").getLastD name) else none)).run P w = .ok v w ∧ g = f := by
          split at h
          · rename_i pt eu
            injection h with h
            exact ⟨by simp [receiverAt, run_underlying_of eu, Place.get], h⟩
          · cases h
          · rename_i d hd eu
            injection h with h
            refine ⟨?_, h⟩
            simp only [receiverAt, Sem.run_bind, run_underlying_of eu, Result.andThen_ok]
            cases d <;> first | rfl | (exact absurd eu (hd _))
          · cases h
        rw [Go.method]
        simp only [Sem.run_bind, run_info_of e1, Result.andThen_ok, e3, hpath, follow, Sem.run_pure, hm, hrecv.1, hrecv.2]
      · cases h

theorem run_invokeM {ty : TypeId} {u : Value} {name : String} {va : Array Value} {g : FuncId} (hm : ∀ k, (Go.method (k + 1) ty u name).run P w = .ok (g, u) w) :
    (invoke (.fn (.method name) #[]) (#[.iface ty u] ++ va)).run P w = (callFunc g (#[u] ++ va)).run P w := by
  have e2 : (#[Value.iface ty u] ++ va).extract 1 (#[Value.iface ty u] ++ va).size = va := by
    apply Array.toList_inj.1; simp
  have e3 : (#[Value.iface ty u] ++ va)[0]? = some (.iface ty u) := by
    rw [Array.getElem?_append_left (by simp)]; rfl
  have hfuel : P.types.size + Made.depth = (P.types.size + Made.depth - 1) + 1 := by
    have : 0 < Made.depth := by decide
    omega
  have hprog : (program).run P w = .ok P w := rfl
  simp only [invoke, e2, e3, callMethod, Sem.run_bind, hprog, Result.andThen_ok]
  rw [hfuel, hm]
  rfl

theorem sim_kInvoke {y : Operand} {name : String} {args : Array Operand} {ts : Array TypeId} (hc : CallSim P B call) (he : ∀ x v, opd t x = some v → VR ρ v (ev x)) (hg : RenG ρ) (fi : Fine s) (r : Rel B ρ s.h w) (hf : Free s.nx s1.nx ρ)
    (h : kInvoke P y name args.toList call t s = .ok x s1) (ho : o.op = .call ⟨.invoke y name, args, ts⟩) : Back P ((execOp ev o).run P w) (Came B ρ s s1 w x) := by
  unfold kInvoke at h
  obtain ⟨l, h1, h2⟩ := withO_inv h
  obtain ⟨f, h3, h4⟩ := withO_inv h2
  have hl := opds_sim he h1
  have hfv := he y f h3
  split at h4
  · rename_i ty v
    obtain ⟨g, h5, h6⟩ := withO_inv h4
    simp only [VR] at hfv
    obtain ⟨u, e, hu⟩ := hfv
    have hargs : VRs ρ (v :: l) (#[u] ++ args.map ev).toList := by
      simp only [Array.toList_append, VRs]
      exact ⟨u, (args.map ev).toList, by simp, hu, by simpa using hl⟩
    have := hc.fn g _ x s s1 ρ w _ fi r hg hf h6 hargs
    have hm : ∀ k, (Go.method (k + 1) ty u name).run P w = .ok (g, u) w := fun k => method_sim h5
    simp only [execOp, ho, resolve, Sem.run_bind, Sem.run_pure, Result.andThen_ok, e]
    rw [run_invokeM (P := P) (w := w) hm]
    exact this
  · cases h4
end
end Go.Rn
