/- Calls: what comes back from them; each operation. -/
import Derived.Test.YtbnjeblcleihkaaGreatDoorRnSimD
import Derived.AtR
import Derived.Orders
namespace Go.Rn
open Go.RowKit
def Rounds (P : Program) (l : Nat) (f : FuncId) (tmps : Array Value) (assign body : Code) (w : World) (R : Value → World → Prop) : Prop :=
  ∀ (c : Frame) (cs : List Frame), ∃ v w', R v w' ∧ Steps P (lone (Frame.round l f tmps assign body .normal) (c :: cs) w) (lone (c.finish v) cs w')
def Back (P : Program) (r : Result Next) (R : Value → World → Prop) : Prop :=
  match r with
  | .ok (.value v) w => R v w
  | .ok .skip w => R undef w
  | .ok (.enter f args) w => Calls P f args w fun e w' => ∃ v, e = .returned v ∧ R v w'
  | .ok (.round l f tmps assign body) w => Rounds P l f tmps assign body w R
  | _ => False
def Came (B : Base) (ρ : Ren) (s s1 : AS) (w : World) (x : AV) : Value → World → Prop :=
  fun v w' => ∃ σ, Ext s.nx s1.nx ρ σ ∧ VR σ x v ∧ Rel B σ s1.h w' ∧ Bel B w w'
structure CallSim (P : Program) (B : Base) (call : Caller) : Prop where
  fn : ∀ (f : FuncId) (args : List AV) (x : AV) (s s1 : AS) (ρ : Ren) (w : World) (vs : Array Value), Fine s → Rel B ρ s.h w → RenG ρ → Free s.nx s1.nx ρ → call (.fn f) args s = .ok x s1 → VRs ρ args vs.toList →
    Back P ((callFunc f vs).run P w) (Came B ρ s s1 w x)
  round : ∀ (l b N : Nat) (args : List AV) (x : AV) (s s1 : AS) (ρ : Ren) (w : World) (vs : Array Value), Fine s → Rel B ρ s.h w → RenG ρ → Free s.nx s1.nx ρ → call (.round l) args s = .ok x s1 → VRs ρ args vs.toList →
    ρ l = some (b, N) → Back P ((Instr.yield b vs).run P w) (Came B ρ s s1 w x)
  row : RowSim B call
section
variable {P : Program} {B : Base} {ρ : Ren} {w : World} {s s1 : AS} {x : AV} {call : Caller} {t : Tr AV} {ev : Operand → Value} {o : Oper}
theorem SimOp.back {c : Sem Next} (h : SimOp P B ρ s s1 w x c) : Back P (c.run P w) (Came B ρ s s1 w x) := by
  obtain ⟨σ, w', nv, a, b, d, e, f⟩ := h
  rw [b]
  cases nv <;> first | (cases d; done) | skip
  · exact ⟨σ, a, d, e, f⟩
  · exact ⟨σ, a, by rw [d]; exact VR.undef σ, e, f⟩
theorem VR.func_inv {f : Fn} {a c : List AV} {v : Value} (h : VR ρ (.func f a c) v) : plainFn f = true ∧ ∃ p q, v = .func f p q ∧ VRs ρ a p.toList ∧ VRs ρ c q.toList := by
  simpa only [VR] using h
theorem sim_kCall {y : Operand} {args : Array Operand} {ts : Array TypeId} (hc : CallSim P B call) (he : ∀ x v, opd t x = some v → VR ρ v (ev x)) (hg : RenG ρ) (fi : Fine s) (r : Rel B ρ s.h w) (hf : Free s.nx s1.nx ρ)
    (h : kCall y args.toList call t s = .ok x s1) (ho : o.op = .call ⟨.value y, args, ts⟩) : Back P ((execOp ev o).run P w) (Came B ρ s s1 w x) := by
  unfold kCall at h
  obtain ⟨l, h1, h2⟩ := withO_inv h
  obtain ⟨f, h3, h4⟩ := withO_inv h2
  have hl := opds_sim he h1
  have hfv := he y f h3
  unfold callV at h4
  split at h4
  · rename_i g first captured
    obtain ⟨_, p, q, e, hp, hq⟩ := hfv.func_inv
    have hargs : VRs ρ (first ++ l ++ captured) (p ++ args.map ev ++ q).toList := by
      rw [Array.toList_append, Array.toList_append]
      exact (hp.append (by simpa using hl)).append hq
    have := hc.fn g _ x s s1 ρ w _ fi r hg hf h4 hargs
    simp only [execOp, ho, resolve, Deferred.ofValue, e, Sem.run_bind, Sem.run_pure, Result.andThen_ok, invoke]
    exact this
  · rename_i n
    have hv' := hfv
    simp only [VR] at hv'
    obtain ⟨b, N, hn, e⟩ := hv'
    have := hc.round n b N _ x s s1 ρ w (args.map ev) fi r hg hf h4 (by simpa using hl) hn
    simp only [execOp, ho, resolve, Deferred.ofValue, e, Sem.run_bind, Sem.run_pure, Result.andThen_ok, invoke]
    simpa using this
  · cases h4
theorem method_sim {ty : TypeId} {name : String} {f : FuncId} {v : Value} {k : Nat} (h : methodT P ty name = some f) : (Go.method (k + 1) ty v name).run P w = .ok (f, v) w := by
  unfold methodT at h
  cases e1 : P.info? ty with
  | none => rw [e1] at h; cases h
  | some i =>
    simp only [e1] at h
    cases e2 : i.methods.toList.find? (·.name == name) with
    | none => simp only [e2] at h; cases h
    | some m =>
      simp only [e2] at h
      have e3 : i.methods.find? (·.name == name) = some m := by rw [← Array.find?_toList]; exact e2
      split at h
      · rename_i g ptr hp hm
        have hpath : m.path.toList = [] := by
          have : m.path = #[] := by simpa using hp
          rw [this]
        have hrecv : (receiverAt ty (.val v) ptr (if m.path.isEmpty = true then some ((name.splitOn ".").getLastD name) else none)).run P w = .ok v w ∧ g = f := by
          split at h
          · rename_i pt eu
            injection h with h
            exact ⟨by simp [receiverAt, run_underlying_of eu, Place.get], h⟩
          · cases h
          · rename_i d hd eu
            injection h with h
            refine ⟨?_, h⟩
            simp only [receiverAt, Sem.run_bind, run_underlying_of eu, Result.andThen_ok]
            cases d <;> first | rfl | (exact absurd eu (hd _))
          · cases h
        rw [Go.method]
        simp only [Sem.run_bind, run_info_of e1, Result.andThen_ok, e3, hpath, follow, Sem.run_pure, hm, hrecv.1, hrecv.2]
      · cases h
theorem run_invokeM {ty : TypeId} {u : Value} {name : String} {va : Array Value} {g : FuncId} (hm : ∀ k, (Go.method (k + 1) ty u name).run P w = .ok (g, u) w) :
    (invoke (.fn (.method name) #[]) (#[.iface ty u] ++ va)).run P w = (callFunc g (#[u] ++ va)).run P w := by
  have e2 : (#[Value.iface ty u] ++ va).extract 1 (#[Value.iface ty u] ++ va).size = va := by
    apply Array.toList_inj.1; simp
  have e3 : (#[Value.iface ty u] ++ va)[0]? = some (.iface ty u) := by
    rw [Array.getElem?_append_left (by simp)]; rfl
  have hfuel : P.types.size + Made.depth = (P.types.size + Made.depth - 1) + 1 := by
    have : 0 < Made.depth := by decide
    omega
  have hprog : (program).run P w = .ok P w := rfl
  simp only [invoke, e2, e3, callMethod, Sem.run_bind, hprog, Result.andThen_ok]
  rw [hfuel, hm]
  rfl
theorem sim_kInvoke {y : Operand} {name : String} {args : Array Operand} {ts : Array TypeId} (hc : CallSim P B call) (he : ∀ x v, opd t x = some v → VR ρ v (ev x)) (hg : RenG ρ) (fi : Fine s) (r : Rel B ρ s.h w) (hf : Free s.nx s1.nx ρ)
    (h : kInvoke P y name args.toList call t s = .ok x s1) (ho : o.op = .call ⟨.invoke y name, args, ts⟩) : Back P ((execOp ev o).run P w) (Came B ρ s s1 w x) := by
  unfold kInvoke at h
  obtain ⟨l, h1, h2⟩ := withO_inv h
  obtain ⟨f, h3, h4⟩ := withO_inv h2
  have hl := opds_sim he h1
  have hfv := he y f h3
  split at h4
  · rename_i ty v
    obtain ⟨g, h5, h6⟩ := withO_inv h4
    simp only [VR] at hfv
    obtain ⟨u, e, hu⟩ := hfv
    have hargs : VRs ρ (v :: l) (#[u] ++ args.map ev).toList := by
      simp only [Array.toList_append, VRs]
      exact ⟨u, (args.map ev).toList, by simp, hu, by simpa using hl⟩
    have := hc.fn g _ x s s1 ρ w _ fi r hg hf h6 hargs
    have hm : ∀ k, (Go.method (k + 1) ty u name).run P w = .ok (g, u) w := fun k => method_sim h5
    simp only [execOp, ho, resolve, Sem.run_bind, Sem.run_pure, Result.andThen_ok, e]
    rw [run_invokeM (P := P) (w := w) hm]
    exact this
  · cases h4
end
end Go.Rn

namespace Go.Rn
open Go.RowKit
section
variable {P : Program} {B : Base} {ρ : Ren} {w : World} {s s1 : AS} {x : AV} {call : Caller} {t : Tr AV} {o : Oper}
theorem op_sim {a : Act} {nt : Nat} (hc : CallSim P B call) (ht : TR ρ nt t a.tmps) (hg : RenG ρ) (fi : Fine s) (r : Rel B ρ s.h w) (hf : Free s.nx s1.nx ρ) (h : (opB P o.op).val call t s = .ok x s1) :
    (∀ c, o.op ≠ .defer c) ∧ Back P ((execOp a.eval o).run P w) (Came B ρ s s1 w x) := by
  have he : ∀ x v, opd t x = some v → VR ρ v (a.eval x) := fun x v => opd_sim ht hg
  cases hop : o.op
  all_goals rw [hop] at h
  case move y => exact ⟨by simp, (sim_kMove (call := call) he r h (.inl hop)).back⟩
  case assign y => exact ⟨by simp, (sim_kMove (call := call) he r h (.inr hop)).back⟩
  case pick c p q => exact ⟨by simp, (sim_kPick (call := call) he r h hop).back⟩
  case alloc e => exact ⟨by simp, (sim_kAlloc (call := call) (t := t) r hf h hop).back⟩
  case box e y => exact ⟨by simp, (sim_kBox (call := call) he r hf h hop).back⟩
  case build ty parts => exact ⟨by simp, (sim_kBuild (call := call) he r h hop).back⟩
  case buildSlice ty len parts => exact ⟨by simp, (sim_kBuildSlice (call := call) he r hf h hop).back⟩
  case load ty y => exact ⟨by simp, (sim_kLoad (call := call) hc.row he fi r h hop).back⟩
  case store ty y z => exact ⟨by simp, (sim_kStore (call := call) he fi r h hop).back⟩
  case nilCheck y => exact ⟨by simp, (sim_kNilCheck (call := call) he r h hop).back⟩
  case binOp op ty y z u => exact ⟨by simp, (sim_kBin (call := call) he r h hop).back⟩
  case unOp op ty y => exact ⟨by simp, (sim_kUn (call := call) he r h hop).back⟩
  case convert src dst y => exact ⟨by simp, (sim_kConvert (call := call) he fi r h hop).back⟩
  case makeInterface ty y => exact ⟨by simp, (sim_kMakeInterface (call := call) he r h hop).back⟩
  case makeFunc fn first captured => exact ⟨by simp, (sim_kMakeFunc (call := call) he r h hop).back⟩
  case makeMap ty y => exact ⟨by simp, (sim_kMakeMap (call := call) he r hf h hop).back⟩
  case makeSlice ty l c => exact ⟨by simp, (sim_kMakeSlice (call := call) he r hf h hop).back⟩
  case slice ty y lo hi mx => exact ⟨by simp, (sim_kSlice (call := call) he r h hop).back⟩
  case fieldAddr ty y f => exact ⟨by simp, (sim_kFieldAddr (call := call) he r h hop).back⟩
  case field ty y f => exact ⟨by simp, (sim_kField (call := call) he r h hop).back⟩
  case indexAddr ty y z => exact ⟨by simp, (sim_kIndexAddr (call := call) he r h hop).back⟩
  case index ty y z => exact ⟨by simp, (sim_kIndex (call := call) he r h hop).back⟩
  case lookup ty y z ok => exact ⟨by simp, (sim_kLookup (call := call) he fi r h hop).back⟩
  case mapUpdate ty m k y => exact ⟨by simp, (sim_kMapPut (call := call) he fi r h (.inl hop)).back⟩
  case insert ty m k y => exact ⟨by simp, (sim_kMapPut (call := call) he fi r h (.inr hop)).back⟩
  case typeAssert y xt asserted ok => exact ⟨by simp, (sim_kAssert (call := call) he r h hop).back⟩
  case range ty y => exact ⟨by simp, (sim_kRange (call := call) he fi r hf h hop).back⟩
  case entry y => exact ⟨by simp, (sim_kEntry (call := call) he fi r h hop).back⟩
  case next y isS =>
    cases isS with
    | true => exact ⟨by simp, (sim_kNextStr (call := call) he fi r h hop).back⟩
    | false => exact absurd (show (fail : M AV) s = .ok x s1 from h) (by intro e; cases e)
  case extract y i => exact ⟨by simp, (sim_kExtract (call := call) he r h hop).back⟩
  case call c =>
    obtain ⟨callee, args, ts⟩ := c
    cases callee with
    | builtin b => exact ⟨by simp, (sim_kBuiltin (call := call) he fi r hf h hop).back⟩
    | value f => exact ⟨by simp, sim_kCall hc he hg fi r hf h hop⟩
    | invoke recv name => exact ⟨by simp, sim_kInvoke hc he hg fi r hf h hop⟩
  all_goals (exact absurd (show (fail : M AV) s = .ok x s1 from h) (by intro e; cases e))
end
end Go.Rn

namespace Go.Rn
open Go.RowKit
section
variable {P : Program} {B : Base} {ρ : Ren} {w : World} {s s1 : AS} {x : AV} {call : Caller} {t : Tr AV} {o : Oper}
theorem callV_sim {f : AV} {args : List AV} {vf : Value} {vs : Array Value} (hc : CallSim P B call) (hg : RenG ρ) (fi : Fine s) (r : Rel B ρ s.h w) (hf : Free s.nx s1.nx ρ)
    (hfv : VR ρ f vf) (hl : VRs ρ args vs.toList) (h4 : callV call f args s = .ok x s1) : Back P ((do let d ← Deferred.ofValue vf vs; invoke d.target d.args : Sem Next).run P w) (Came B ρ s s1 w x) := by
  unfold callV at h4
  split at h4
  · rename_i g first captured
    obtain ⟨_, p, q, e, hp, hq⟩ := hfv.func_inv
    have hargs : VRs ρ (first ++ args ++ captured) (p ++ vs ++ q).toList := by
      rw [Array.toList_append, Array.toList_append]
      exact (hp.append hl).append hq
    have := hc.fn g _ x s s1 ρ w _ fi r hg hf h4 hargs
    simp only [Deferred.ofValue, e, Sem.run_bind, Sem.run_pure, Result.andThen_ok, invoke]
    exact this
  · rename_i n
    have hv' := hfv
    simp only [VR] at hv'
    obtain ⟨b, N, hn, e⟩ := hv'
    have := hc.round n b N _ x s s1 ρ w vs fi r hg hf h4 hl hn
    simp only [Deferred.ofValue, e, Sem.run_bind, Sem.run_pure, Result.andThen_ok, invoke]
    simpa using this
  · cases h4
theorem back_steps {ops : Array Oper} {i : Nat} {a : Act} {R : Value → World → Prop} (ho : ops[i]? = some o) (hw : Region.wanted o (yielded ops a.tmps) = true) (hd : ∀ c, o.op ≠ .defer c)
    (h : Back P ((execOp a.eval o).run P w) R) (b : Frame) (k : List Item) (cs : List Frame) (rest : List Nat) :
    ∃ v w', R v w' ∧ Steps P (lone (b.atR a (.inRegion ops (i :: rest) :: k)) cs w) (lone (b.atR (a.put o.dst v) (.inRegion ops rest :: k)) cs w') := by
  have hg := stepGR_op (P := P) (b := b) (k := k) (cs := cs) (w := w) (rest := rest) ho hw
  rw [Oper.semAt_eq _ _ _ hd] at hg
  have hfin : ∀ v, (b.atR a (.inRegion ops (i :: rest) :: k)).finish v = b.atR (a.put o.dst v) (.inRegion ops rest :: k) := by
    intro v; rw [Frame.finish_atR, ho]; rfl
  generalize hr : (execOp a.eval o).run P w = res at h
  unfold Back at h
  split at h
  · rename_i v w'
    refine ⟨v, w', h, .one (step_lone_go ?_)⟩
    rw [hg, ← hfin]; simp [stepG.apply, hr]
  · rename_i w'
    refine ⟨undef, w', h, .one (step_lone_go ?_)⟩
    rw [hg, ← hfin]; simp [stepG.apply, hr]
  · rename_i f args w'
    obtain ⟨e, w'', fr, ⟨v, rfl, hR⟩, hsteps, hfn, hleave⟩ := h (b.atR a (.inRegion ops (i :: rest) :: k) :: cs)
    have henter : step P (lone (b.atR a (.inRegion ops (i :: rest) :: k)) cs w) = .next (lone (Frame.enter P f args .normal) (b.atR a (.inRegion ops (i :: rest) :: k) :: cs) w') :=
      step_lone_go (by rw [hg]; simp [stepG.apply, hr, Frame.atR])
    refine ⟨v, w'', hR, .head henter (Steps.trans hsteps (.one ?_))⟩
    rw [← hfin]; exact step_leave_returned hleave
  · rename_i l f tmps assign body w'
    obtain ⟨v, w'', hR, hsteps⟩ := h (b.atR a (.inRegion ops (i :: rest) :: k)) cs
    have henter : step P (lone (b.atR a (.inRegion ops (i :: rest) :: k)) cs w) = .next (lone (Frame.round l f tmps assign body .normal) (b.atR a (.inRegion ops (i :: rest) :: k) :: cs) w') :=
      step_lone_go (by rw [hg]; simp [stepG.apply, hr, Frame.atR])
    refine ⟨v, w'', hR, .head henter ?_⟩
    rw [← hfin]; exact hsteps
  · cases h
theorem yielded_sim {ops : Array Oper} {nt : Nat} {a : Act} (ht : TR ρ nt t a.tmps) (j : Nat) (hk : aknown ops t j = true) : yielded ops a.tmps j = ayielded ops t j := by
  unfold aknown at hk
  unfold yielded ayielded
  cases e1 : ops[j]? with
  | none => rfl
  | some q =>
    rw [e1] at hk
    simp only [Option.bind_some]
    simp only at hk
    cases e2 : q.dst with
    | none => rfl
    | some d =>
      rw [e2] at hk
      simp only [Option.bind_some]
      simp only at hk
      cases e4 : t.get d with
      | none => rw [e4] at hk; cases hk
      | some y =>
        have hv := ht.2 d y e4
        rw [Array.getD_eq_getD_getElem?] at hv
        cases e3 : a.tmps[d]? with
        | none =>
          rw [e3] at hv
          cases y <;> first | rfl | (exfalso; simp only [Option.getD_none, VR, Go.undef] at hv; cases hv)
        | some v =>
          rw [e3] at hv
          simp only [Option.getD_some] at hv
          cases v with
          | bool c => rw [bool_of hv]
          | _ => cases y <;> first | rfl | (exfalso; simp only [VR] at hv; cases hv)
theorem awanted_sim {ops : Array Oper} {nt : Nat} {a : Act} {g : Nat × Bool} (ht : TR ρ nt t a.tmps) (hg : o.guard = some g) (hk : aknown ops t g.1 = true) : Region.wanted o (yielded ops a.tmps) = awanted ops g t := by
  unfold Region.wanted awanted
  rw [hg]
  simp only [yielded_sim ht g.1 hk]
  cases ayielded ops t g.1 with
  | none => rfl
  | some b => cases b <;> cases g.2 <;> rfl
theorem aput_inv {nt : Nat} {dst : Option Tmp} {v : AV} {t1 : Tr AV} (h : aput nt t dst v = some t1) : (dst = none ∧ t1 = t) ∨ ∃ d, dst = some d ∧ d < nt ∧ t1 = t.put d (some v) := by
  cases dst with
  | none => injection h with h; exact .inl ⟨rfl, h.symm⟩
  | some d =>
    have h' : @Bool.rec (fun _ => Option (Tr AV)) none (some (t.put d (some v))) (Nat.blt d nt) = some t1 := h
    rw [rec_blt] at h'
    by_cases q : d < nt
    · rw [if_pos q] at h'; injection h' with h'; exact .inr ⟨d, rfl, q, h'.symm⟩
    · rw [if_neg q] at h'; cases h'
theorem aput_sim {nt : Nat} {dst : Option Tmp} {y : AV} {v : Value} {t1 : Tr AV} {a : Act} (ht : TR ρ nt t a.tmps) (hnt : nt ≤ top) (h : aput nt t dst y = some t1) (hv : VR ρ y v) : TR ρ nt t1 (a.put dst v).tmps ∧ (a.put dst v).defers = a.defers := by
  rcases aput_inv h with ⟨rfl, rfl⟩ | ⟨d, rfl, hd, rfl⟩
  · exact ⟨ht, rfl⟩
  · exact ⟨ht.set hd hnt hv, rfl⟩
structure At (B : Base) (ρ : Ren) (s : AS) (nt : Nat) (t : Tr AV) (w : World) (a : Act) : Prop where
  tr : TR ρ nt t a.tmps
  rel : Rel B ρ s.h w
  g : RenG ρ
  nt : nt ≤ top
  fine : Fine s
def Goes (P : Program) (B : Base) (ρ : Ren) (s s1 : AS) (nt : Nat) (t1 : Tr AV) (w : World) (a : Act) (m : Machine) (m' : Act → World → Machine) : Prop :=
  ∃ σ a' w', Ext s.nx s1.nx ρ σ ∧ At B σ s1 nt t1 w' a' ∧ a'.defers = a.defers ∧ Bel B w w' ∧ Steps P m (m' a' w')
theorem aone_sim {ops : Array Oper} {i nt : Nat} {a : Act} {t1 : Tr AV} (hc : CallSim P B call) (hl : ∀ t a, Local (call t a)) (ho : ops[i]? = some o) (hat : At B ρ s nt t w a) (hf : Free s.nx s1.nx ρ) (h : aone P call nt ops o t s = .ok t1 s1)
    (b : Frame) (k : List Item) (cs : List Frame) (rest : List Nat) :
    Goes P B ρ s s1 nt t1 w a (lone (b.atR a (.inRegion ops (i :: rest) :: k)) cs w) (fun a' w' => lone (b.atR a' (.inRegion ops rest :: k)) cs w') := by
  have main : ∀ (f : (opB P o.op).val call t s = (opB P o.op).val call t s), Region.wanted o (yielded ops a.tmps) = true → kOp (opB P o.op) o.dst call nt t s = .ok t1 s1 →
      Goes P B ρ s s1 nt t1 w a (lone (b.atR a (.inRegion ops (i :: rest) :: k)) cs w) (fun a' w' => lone (b.atR a' (.inRegion ops rest :: k)) cs w') := by
    intro _ hw hk
    unfold kOp at hk
    obtain ⟨v, s2, h1, h2⟩ := M.bind_inv hk
    obtain ⟨h3, rfl⟩ := lift_inv h2
    obtain ⟨hd, hb⟩ := op_sim hc hat.tr hat.g hat.fine hat.rel hf h1
    obtain ⟨u, w', ⟨σ, e1, e2, e3, e4⟩, st⟩ := back_steps ho hw hd hb b k cs rest
    obtain ⟨q1, q2⟩ := aput_sim (hat.tr.mono e1.le) hat.nt h3 e2
    exact ⟨σ, a.put o.dst u, w', e1, ⟨q1, e3, hat.g.mono e1.le, hat.nt, (Local.aop P hl t o.op).fine hat.fine h1⟩, q2, e4, st⟩
  unfold aone slotB at h
  cases hg : o.guard with
  | none =>
    rw [hg] at h
    exact main rfl (by unfold Region.wanted; rw [hg]) h
  | some g =>
    rw [hg] at h
    have h' : kOpIf ops g (opB P o.op) o.dst call nt t s = .ok t1 s1 := h
    unfold kOpIf at h'
    obtain ⟨hk, h'⟩ := withB_inv h'
    have hw := awanted_sim (ops := ops) hat.tr hg hk
    cases q : awanted ops g t with
    | true => rw [q] at h' hw; exact main rfl hw h'
    | false =>
      rw [q] at h' hw
      obtain ⟨h3, rfl⟩ := lift_inv (show lift (aput nt t o.dst aundef) s = .ok t1 s1 from h')
      obtain ⟨q1, q2⟩ := aput_sim hat.tr hat.nt h3 (VR.undef ρ)
      have hs := stepR_op_skip (P := P) (b := b) (a := a) (k := k) (cs := cs) (w := w) (ops := ops) (i := i) (rest := rest) (by simp [ho]; simpa using hw)
      simp only [ho, Option.bind_some] at hs
      exact ⟨ρ, a.put o.dst undef, w, Ext.refl _ _ _, ⟨q1, hat.rel, hat.g, hat.nt, hat.fine⟩, q2, Bel.refl _ _, .one hs⟩
theorem aops_sim {ops : Array Oper} {nt : Nat} (hc : CallSim P B call) (hl : ∀ t a, Local (call t a)) (b : Frame) (k : List Item) (cs : List Frame) : ∀ (n i : Nat) (l : List Oper) {t t1 : Tr AV} {s s1 : AS} {ρ : Ren} {a : Act} {w : World}, l.length = n → ops.toList.drop i = l →
    At B ρ s nt t w a → Free s.nx s1.nx ρ → aops P call nt ops l t s = .ok t1 s1 →
    Goes P B ρ s s1 nt t1 w a (lone (b.atR a (.inRegion ops (List.range' i n) :: k)) cs w) (fun a' w' => lone (b.atR a' k) cs w')
  | 0, i, l, t, t1, s, s1, ρ, a, w, hn, _, hat, _, h => by
    have : l = [] := List.eq_nil_of_length_eq_zero hn
    subst this
    obtain ⟨rfl, rfl⟩ := pure_inv (show M.pure t s = .ok t1 s1 from h)
    exact ⟨ρ, a, w, Ext.refl _ _ _, hat, rfl, Bel.refl _ _, .one stepR_region_end⟩
  | n + 1, i, l, t, t1, s, s1, ρ, a, w, hn, hl', hat, hf, h => by
    cases l with
    | nil => cases hn
    | cons o l =>
      obtain ⟨t2, s2, h1, h2⟩ := M.bind_inv (show ((aone P call nt ops o t).bind (aops P call nt ops l)) s = .ok t1 s1 from h)
      have ho : ops[i]? = some o := by
        have : (ops.toList.drop i)[0]? = some o := by rw [hl']; rfl
        rw [List.getElem?_drop] at this; simpa using this
      have hrest : ops.toList.drop (i + 1) = l := by
        rw [← List.drop_drop, hl']; rfl
      have le1 : s.nx ≤ s2.nx := (Local.aone P hl nt ops o t).le hat.fine h1
      have fi2 : Fine s2 := (Local.aone P hl nt ops o t).fine hat.fine h1
      have le2 : s2.nx ≤ s1.nx := (Local.aops P hl nt ops l t2).le fi2 h2
      obtain ⟨σ, a', w', e1, e2, e3, e4, e5⟩ := aone_sim hc hl ho hat (hf.sub (Nat.le_refl _) le2) h1 b k cs (List.range' (i + 1) n)
      obtain ⟨τ, a'', w'', f1, f2, f3, f4, f5⟩ := aops_sim hc hl b k cs n (i + 1) l (by simpa using hn) hrest e2 (hf.next le1 e1) h2
      exact ⟨τ, a'', w'', e1.trans le1 le2 f1, f2, f3.trans e3, e4.trans f4, by rw [List.range'_succ]; exact Steps.trans e5 f5⟩
theorem region_sim {ops : Array Oper} {nt id : Nat} {t1 : Tr AV} {a : Act} (hc : CallSim P B call) (hl : ∀ t a, Local (call t a)) (hat : At B ρ s nt t w a) (hf : Free s.nx s1.nx ρ) (h : aops P call nt ops ops.toList t s = .ok t1 s1)
    (b : Frame) (k : List Item) (cs : List Frame) :
    Goes P B ρ s s1 nt t1 w a (lone (b.atR a (.code (.region id ops false) :: k)) cs w) (fun a' w' => lone (b.atR a' k) cs w') := by
  obtain ⟨σ, a', w', e1, e2, e3, e4, e5⟩ := aops_sim hc hl b k cs ops.size 0 ops.toList (by simp) (by simp) hat hf h
  exact ⟨σ, a', w', e1, e2, e3, e4, .head stepR_region (by rw [List.range_eq_range']; exact e5)⟩
end
end Go.Rn

namespace Go.Rn
open Go.RowKit
def stepBits (acc : Array Nat) (o : Oper) : Nat := o.after.foldl (fun s e => if Region.binds .any e then s ||| 2 ^ e.on ||| acc.getD e.on 0 else s) 0
theorem stepBits_bit (acc : Array Nat) (o : Oper) (i : Nat) : (stepBits acc o).testBit i = true ↔ ∃ e ∈ o.after.toList, Region.binds .any e = true ∧ (e.on = i ∨ (acc.getD e.on 0).testBit i = true) := by
  unfold stepBits
  rw [← Array.foldl_toList]
  have : ∀ (l : List Edge) (s : Nat), (l.foldl (fun s e => if Region.binds .any e then s ||| 2 ^ e.on ||| acc.getD e.on 0 else s) s).testBit i = true ↔
      s.testBit i = true ∨ ∃ e ∈ l, Region.binds .any e = true ∧ (e.on = i ∨ (acc.getD e.on 0).testBit i = true) := by
    intro l
    induction l with
    | nil => intro s; simp
    | cons e l ih =>
      intro s
      rw [List.foldl_cons, ih]
      by_cases q : Region.binds .any e = true
      · rw [if_pos q]
        simp only [Nat.testBit_or, Bool.or_eq_true, Nat.testBit_two_pow, decide_eq_true_eq, List.mem_cons, exists_eq_or_imp, q, true_and]
        constructor
        · rintro ((h | h) | h)
          · rcases h with h | h
            · exact .inl h
            · exact .inr (.inl (.inl h))
          · exact .inr (.inl (.inr h))
          · exact .inr (.inr h)
        · rintro (h | (h | h) | h)
          · exact .inl (.inl (.inl h))
          · exact .inl (.inl (.inr h))
          · exact .inl (.inr h)
          · exact .inr h
      · rw [if_neg q]
        simp only [List.mem_cons, exists_eq_or_imp, q, false_and, false_or, Bool.false_eq_true]
  have h := this o.after.toList 0
  simpa using h
theorem before_list (l : List Oper) : ∀ (acc : Array Nat), (l.foldl (fun acc o => acc.push (stepBits acc o)) acc).size = acc.size + l.length ∧
    (∀ k, k < acc.size → (l.foldl (fun acc o => acc.push (stepBits acc o)) acc).getD k 0 = acc.getD k 0) := by
  induction l with
  | nil => intro acc; exact ⟨by simp, fun k _ => rfl⟩
  | cons o l ih =>
    intro acc
    rw [List.foldl_cons]
    obtain ⟨h1, h2⟩ := ih (acc.push (stepBits acc o))
    refine ⟨by rw [h1]; simp; omega, fun k hk => ?_⟩
    rw [h2 k (by simp; omega)]
    simp only [Array.getD_eq_getD_getElem?, Array.getElem?_push]
    rw [if_neg (by omega)]
theorem before_at {ops : Array Oper} {j : Nat} {o : Oper} (ho : ops[j]? = some o) :
    (Region.before ops).getD j 0 = stepBits ((ops.toList.take j).foldl (fun acc o => acc.push (stepBits acc o)) #[]) o ∧
    ∀ k, k < j → ((ops.toList.take j).foldl (fun acc o => acc.push (stepBits acc o)) #[]).getD k 0 = (Region.before ops).getD k 0 := by
  have hb : Region.before ops = ops.toList.foldl (fun acc o => acc.push (stepBits acc o)) #[] := by
    unfold Region.before
    rw [← Array.foldl_toList]
    rfl
  have hj : j < ops.toList.length := by
    have := (Array.getElem?_eq_some_iff.1 ho).1; simpa using this
  have ho' : ops.toList[j]? = some o := by simpa using ho
  have hsplit : ops.toList = ops.toList.take j ++ o :: ops.toList.drop (j + 1) := by
    have e : ops.toList.drop j = o :: ops.toList.drop (j + 1) := by
      rw [List.drop_eq_getElem_cons hj]
      congr 1
      rw [List.getElem?_eq_getElem hj] at ho'
      injection ho'
    rw [← e, List.take_append_drop]
  obtain ⟨s1, _⟩ := before_list (ops.toList.take j) #[]
  have hsz : ((ops.toList.take j).foldl (fun acc o => acc.push (stepBits acc o)) #[]).size = j := by
    rw [s1, List.length_take, Nat.min_eq_left (by omega)]; exact Nat.zero_add j
  generalize hA : (ops.toList.take j).foldl (fun acc o => acc.push (stepBits acc o)) #[] = A at *
  have hb2 : Region.before ops = (ops.toList.drop (j + 1)).foldl (fun acc o => acc.push (stepBits acc o)) (A.push (stepBits A o)) := by
    rw [hb]
    conv => lhs; rw [hsplit]
    rw [List.foldl_append, hA, List.foldl_cons]
  obtain ⟨_, q2⟩ := before_list (ops.toList.drop (j + 1)) (A.push (stepBits A o))
  refine ⟨?_, fun k hk => ?_⟩
  · rw [hb2, q2 j (by simp; omega)]
    rw [Array.getD_eq_getD_getElem?, Array.getElem?_push, if_pos hsz.symm]; rfl
  · rw [hb2, q2 k (by simp; omega)]
    simp only [Array.getD_eq_getD_getElem?, Array.getElem?_push]
    rw [if_neg (by omega)]
theorem before_size (ops : Array Oper) : (Region.before ops).size = ops.size := by
  have hb : Region.before ops = ops.toList.foldl (fun acc o => acc.push (stepBits acc o)) #[] := by
    unfold Region.before
    rw [← Array.foldl_toList]
    rfl
  rw [hb, (before_list ops.toList #[]).1]; simp
theorem before_closed {ops : Array Oper} (he : EdgesOk ops) (D : Nat → Prop) (hD : ∀ (j : Nat) (o : Oper) (e : Edge), ops[j]? = some o → D j → e ∈ o.after → Region.binds .any e = true → D e.on) :
    ∀ (n j i : Nat), j ≤ n → ((Region.before ops).getD j 0).testBit i = true → i < j ∧ (D j → D i) ∧ ((∀ (o : Oper) (e : Edge), ops[j]? = some o → e ∈ o.after → Region.binds .any e = true → D e.on) → D i) := by
  intro n
  induction n with
  | zero =>
    intro j i hj h
    have : j = 0 := by omega
    subst this
    cases ho : ops[0]? with
    | none =>
      have : ¬ 0 < (Region.before ops).size := by
        rw [before_size]; intro q; rw [Array.getElem?_eq_getElem q] at ho; cases ho
      rw [Array.getD_eq_getD_getElem?, Array.getElem?_eq_none (by omega)] at h
      simp at h
    | some o =>
      obtain ⟨h1, _⟩ := before_at ho
      rw [h1, stepBits_bit] at h
      obtain ⟨e, hm, hbd, _⟩ := h
      exact absurd (he 0 o e ho (Array.mem_toList_iff.1 hm) hbd) (Nat.not_lt_zero _)
  | succ n ih =>
    intro j i hj h
    by_cases q : j ≤ n
    · exact ih j i q h
    · have : j = n + 1 := by omega
      subst this
      cases ho : ops[n + 1]? with
      | none =>
        have : ¬ n + 1 < (Region.before ops).size := by
          rw [before_size]; intro q; rw [Array.getElem?_eq_getElem q] at ho; cases ho
        rw [Array.getD_eq_getD_getElem?, Array.getElem?_eq_none (by omega)] at h
        simp at h
      | some o =>
        obtain ⟨h1, h2⟩ := before_at ho
        rw [h1, stepBits_bit] at h
        obtain ⟨e, hm, hbd, hor⟩ := h
        have hm' := Array.mem_toList_iff.1 hm
        have hlt := he (n + 1) o e ho hm' hbd
        rcases hor with rfl | hor
        · exact ⟨hlt, fun hDj => hD _ o e ho hDj hm' hbd, fun hall => hall o e rfl hm' hbd⟩
        · rw [h2 e.on hlt] at hor
          obtain ⟨a, b, _⟩ := ih e.on i (by omega) hor
          exact ⟨by omega, fun hDj => b (hD _ o e ho hDj hm' hbd), fun hall => b (hall o e rfl hm' hbd)⟩
def open_ (listed : Array Bool) : Nat := (List.range listed.size).countP fun i => !listed.getD i true
theorem countP_lt {n i : Nat} {p q : Nat → Bool} (hi : i < n) (hp : p i = true) (hq : q i = false) (hne : ∀ k, k ≠ i → q k = p k) : (List.range n).countP q < (List.range n).countP p := by
  induction n with
  | zero => omega
  | succ n ih =>
    rw [List.range_succ, List.countP_append, List.countP_append]
    by_cases e : i = n
    · subst e
      have : (List.range i).countP q = (List.range i).countP p := by
        apply List.countP_congr
        intro k hk
        have : k ≠ i := by have := List.mem_range.1 hk; omega
        rw [hne k this]
      rw [this]; simp [hp, hq]
    · have := ih (by omega)
      have e2 : (List.countP q [n]) = List.countP p [n] := by
        simp [List.countP_cons, hne n (Ne.symm e)]
      rw [e2]; omega
theorem open_set {listed : Array Bool} {i : Nat} (hi : listed.getD i true = false) : open_ (listed.setIfInBounds i true) < open_ listed := by
  have hlt : i < listed.size := by
    rcases Nat.lt_or_ge i listed.size with q | q
    · exact q
    · rw [Array.getD_eq_getD_getElem?, Array.getElem?_eq_none q] at hi; cases hi
  unfold open_
  rw [Array.size_setIfInBounds]
  refine countP_lt hlt (by simp [hi]) ?_ (fun k hk => ?_)
  · simp [Array.getD_eq_getD_getElem?, Array.getElem?_setIfInBounds_self_of_lt hlt]
  · simp only [Array.getD_eq_getD_getElem?]
    rw [Array.getElem?_setIfInBounds_ne (by omega)]
theorem open_none {listed : Array Bool} (h : open_ listed = 0) : ∀ i, i < listed.size → listed.getD i false = true := by
  intro i hi
  unfold open_ at h
  rw [List.countP_eq_zero] at h
  have := h i (List.mem_range.2 hi)
  rw [Array.getD_eq_getD_getElem?, Array.getElem?_eq_getElem hi] at this ⊢
  simpa using this
theorem all_listed {ops : Array Oper} (he : EdgesOk ops) {listed : Array Bool} (hs : listed.size = ops.size) (hr : Region.ready .any ops listed = []) : ∀ n i, i < n → i < ops.size → listed.getD i false = true := by
  intro n
  induction n with
  | zero => intro i hi; omega
  | succ n ih =>
    intro i hi hlt
    by_cases q : i < n
    · exact ih i q hlt
    · have : i = n := by omega
      subst this
      cases h : listed.getD i false with
      | true => rfl
      | false =>
        exfalso
        have hmem : i ∈ Region.ready .any ops listed := by
          unfold Region.ready
          rw [List.mem_filter]
          refine ⟨List.mem_range.2 hlt, ?_⟩
          have h1 : listed.getD i true = false := by
            rw [Array.getD_eq_getD_getElem?, Array.getElem?_eq_getElem (by omega)] at h ⊢
            simpa using h
          rw [h1, Array.getElem?_eq_getElem hlt]
          simp only [Bool.not_false, Bool.true_and, Option.map_some, Option.getD_some]
          rw [Array.all_eq_true_iff_forall_mem]
          intro e hm
          cases hb : Region.binds .any e with
          | false => rfl
          | true =>
            have hlt2 := he i ops[i] e (Array.getElem?_eq_getElem hlt) hm hb
            simp only [Bool.not_true, Bool.false_or]
            exact ih e.on hlt2 (by omega)
        rw [hr] at hmem; cases hmem
section
variable {P : Program} {ops : Array Oper}
theorem order_run (he : EdgesOk ops) (b : Frame) (k : List Item) (cs : List Frame) (Inv : Array Bool → Act → World → Prop)
    (step_ : ∀ (listed : Array Bool) (a : Act) (w : World) (i : Nat) (o : Oper) (rest : List Nat), listed.size = ops.size → Inv listed a w → ops[i]? = some o → listed.getD i true = false →
      (∀ e ∈ o.after, Region.binds .any e = true → listed.getD e.on false = true) →
      ∃ a' w', Inv (listed.setIfInBounds i true) a' w' ∧ Steps P (lone (b.atR a (.inRegion ops (i :: rest) :: k)) cs w) (lone (b.atR a' (.inRegion ops rest :: k)) cs w')) :
    ∀ (fuel t : Nat) (listed : Array Bool) (a : Act) (w : World), listed.size = ops.size → open_ listed ≤ fuel → Inv listed a w →
      ∃ listed' a' w', listed'.size = ops.size ∧ (∀ i, i < ops.size → listed'.getD i false = true) ∧ Inv listed' a' w' ∧
        Steps P (lone (b.atR a (.inRegion ops (Region.linearise.go .any ops fuel t listed []) :: k)) cs w) (lone (b.atR a' k) cs w') := by
  intro fuel
  induction fuel with
  | zero =>
    intro t listed a w hs ho hi
    refine ⟨listed, a, w, hs, ?_, hi, ?_⟩
    · intro i hlt; exact open_none (by omega) i (by omega)
    · simp only [Region.linearise.go, List.reverse_nil]
      exact .one stepR_region_end
  | succ fuel ih =>
    intro t listed a w hs ho hi
    simp only [Region.linearise.go]
    change ∃ listed' a' w', listed'.size = ops.size ∧ (∀ i, i < ops.size → listed'.getD i false = true) ∧ Inv listed' a' w' ∧
        Steps P (lone (b.atR a (.inRegion ops (match (Region.ready .any ops listed)[t % (Region.ready .any ops listed).length]? with
          | some i => Region.linearise.go .any ops fuel (t / (Region.ready .any ops listed).length) (listed.setIfInBounds i true) [i]
          | none => [].reverse) :: k)) cs w) (lone (b.atR a' k) cs w')
    cases hq : (Region.ready .any ops listed)[t % (Region.ready .any ops listed).length]? with
    | none =>
      have hnil : Region.ready .any ops listed = [] := by
        cases hr : Region.ready .any ops listed with
        | nil => rfl
        | cons x xs =>
          rw [hr] at hq
          have hlt : t % (x :: xs).length < (x :: xs).length := Nat.mod_lt _ (by simp)
          simp at hq
          simp at hlt
          omega
      refine ⟨listed, a, w, hs, fun i hlt => all_listed he hs hnil (i + 1) i (by omega) hlt, hi, ?_⟩
      simp only [List.reverse_nil]
      exact .one stepR_region_end
    | some i =>
      simp only []
      have hmem := List.mem_of_getElem? hq
      unfold Region.ready at hmem
      rw [List.mem_filter, Bool.and_eq_true] at hmem
      obtain ⟨hlt, h1, h2⟩ := hmem
      have hlt' := List.mem_range.1 hlt
      have hoi : ops[i]? = some ops[i] := Array.getElem?_eq_getElem hlt'
      rw [hoi] at h2
      simp only [Option.map_some, Option.getD_some] at h2
      rw [Array.all_eq_true_iff_forall_mem] at h2
      have h1' : listed.getD i true = false := by simpa using h1
      rw [linearise_go_acc, List.reverse_singleton, List.singleton_append]
      obtain ⟨a', w', j1, j2⟩ := step_ listed a w i ops[i] (Region.linearise.go .any ops fuel (t / (Region.ready .any ops listed).length) (listed.setIfInBounds i true) []) hs hi hoi h1' (fun e hm hb => by
        have := h2 e hm
        rw [hb] at this; simpa using this)
      obtain ⟨l', a'', w'', k0, k1, k2, k3⟩ := ih (t / (Region.ready .any ops listed).length) (listed.setIfInBounds i true) a' w' (by simp [hs]) (by have := open_set h1'; omega) j1
      exact ⟨l', a'', w'', k0, k1, k2, Steps.trans j2 k3⟩
theorem open_all (n : Nat) : open_ (Array.replicate n false) ≤ n := by
  unfold open_
  have := List.countP_le_length (p := fun i => !(Array.replicate n false).getD i true) (l := List.range (Array.replicate n false).size)
  simpa using this
end
end Go.Rn

namespace Go.Rn
open Go.RowKit
section
variable {P : Program} {call : Caller} {t u : Tr AV}
theorem opds_congr {f g : Operand → Option AV} : ∀ {l : List Operand}, (∀ y ∈ l, f y = g y) → opds f l = opds g l
  | [], _ => rfl
  | y :: l, h => by simp only [opds, h y List.mem_cons_self, opds_congr fun z hz => h z (List.mem_cons_of_mem _ hz)]
theorem opdps_congr {f g : Operand → Option AV} : ∀ {l : List (Nat × Operand)}, (∀ y ∈ l, f y.2 = g y.2) → opdps f l = opdps g l
  | [], _ => rfl
  | (i, y) :: l, h => by simp only [opdps, h (i, y) List.mem_cons_self, opdps_congr fun z hz => h z (List.mem_cons_of_mem _ hz)]
theorem opt_congr {f g : Operand → Option AV} {y : Option Operand} (h : ∀ z, y = some z → f z = g z) : opt f y = opt g y := by
  cases y with
  | none => rfl
  | some z => simp only [opt, h z rfl]
theorem opB_congr {op : Op} (h : ∀ y ∈ op.operands, opd t y = opd u y) : (opB P op).val call t = (opB P op).val call u := by
  cases op
  case move y => show kMove y call t = kMove y call u; simp only [kMove, h y (by simp [Op.operands])]
  case assign y => show kMove y call t = kMove y call u; simp only [kMove, h y (by simp [Op.operands])]
  case pick c p q => show kPick c p q call t = kPick c p q call u; simp only [kPick, h c (by simp [Op.operands]), h p (by simp [Op.operands]), h q (by simp [Op.operands])]
  case alloc e => rfl
  case box e y => show kBox y call t = kBox y call u; simp only [kBox, h y (by simp [Op.operands])]
  case build ty parts =>
    show kBuild P ty parts.toList call t = kBuild P ty parts.toList call u
    simp only [kBuild, opdps_congr (f := opd t) (g := opd u) (l := parts.toList) fun y hy => h y.2 (by simp only [Op.operands, List.mem_toArray]; exact List.mem_map_of_mem hy)]
  case buildSlice ty len parts =>
    show kBuildSlice P ty len parts.toList call t = kBuildSlice P ty len parts.toList call u
    simp only [kBuildSlice, opdps_congr (f := opd t) (g := opd u) (l := parts.toList) fun y hy => h y.2 (by simp only [Op.operands, List.mem_toArray]; exact List.mem_map_of_mem hy)]
  case load ty y => show kLoad P ty y call t = kLoad P ty y call u; simp only [kLoad, h y (by simp [Op.operands])]
  case store ty y z => show kStore P ty y z call t = kStore P ty y z call u; simp only [kStore, h y (by simp [Op.operands]), h z (by simp [Op.operands])]
  case nilCheck y => show kNilCheck y call t = kNilCheck y call u; simp only [kNilCheck, h y (by simp [Op.operands])]
  case binOp op ty y z v => show kBin P op ty y z call t = kBin P op ty y z call u; simp only [kBin, h y (by simp [Op.operands]), h z (by simp [Op.operands])]
  case unOp op ty y => show kUn op y call t = kUn op y call u; simp only [kUn, h y (by simp [Op.operands])]
  case convert src dst y => show kConvert P src dst y call t = kConvert P src dst y call u; simp only [kConvert, h y (by simp [Op.operands])]
  case makeInterface ty y => show kMakeInterface P ty y call t = kMakeInterface P ty y call u; simp only [kMakeInterface, h y (by simp [Op.operands])]
  case makeFunc fn first captured =>
    show kMakeFunc fn first.toList captured.toList call t = kMakeFunc fn first.toList captured.toList call u
    simp only [kMakeFunc, opds_congr (f := opd t) (g := opd u) (l := first.toList) fun y hy => h y (by simp only [Op.operands, Array.mem_append]; exact .inl (Array.mem_toList_iff.1 hy)),
      opds_congr (f := opd t) (g := opd u) (l := captured.toList) fun y hy => h y (by simp only [Op.operands, Array.mem_append]; exact .inr (Array.mem_toList_iff.1 hy))]
  case makeMap ty y =>
    cases y with
    | none => rfl
    | some y => show kMakeMap P ty (some y) call t = kMakeMap P ty (some y) call u; simp only [kMakeMap, h y (by simp [Op.operands])]
  case makeSlice ty l c => show kMakeSlice P ty l c call t = kMakeSlice P ty l c call u; simp only [kMakeSlice, h l (by simp [Op.operands]), h c (by simp [Op.operands])]
  case slice ty y lo hi mx =>
    show kSlice P ty y lo hi mx call t = kSlice P ty y lo hi mx call u
    simp only [kSlice, h y (by simp [Op.operands]), opt_congr (f := opd t) (g := opd u) (y := lo) (fun z hz => h z (by simp [Op.operands, hz])), opt_congr (f := opd t) (g := opd u) (y := hi) (fun z hz => h z (by simp [Op.operands, hz])),
      opt_congr (f := opd t) (g := opd u) (y := mx) (fun z hz => h z (by simp [Op.operands, hz]))]
  case fieldAddr ty y f => show kFieldAddr P ty y f call t = kFieldAddr P ty y f call u; simp only [kFieldAddr, h y (by simp [Op.operands])]
  case field ty y f => show kField P ty y f call t = kField P ty y f call u; simp only [kField, h y (by simp [Op.operands])]
  case indexAddr ty y z => show kIndexAddr P ty y z call t = kIndexAddr P ty y z call u; simp only [kIndexAddr, h y (by simp [Op.operands]), h z (by simp [Op.operands])]
  case index ty y z => show kIndex P ty y z call t = kIndex P ty y z call u; simp only [kIndex, h y (by simp [Op.operands]), h z (by simp [Op.operands])]
  case lookup ty y z ok => show kLookup P ty y z ok call t = kLookup P ty y z ok call u; simp only [kLookup, h y (by simp [Op.operands]), h z (by simp [Op.operands])]
  case mapUpdate ty m k y => show kMapPut P ty m k y call t = kMapPut P ty m k y call u; simp only [kMapPut, h m (by simp [Op.operands]), h k (by simp [Op.operands]), h y (by simp [Op.operands])]
  case insert ty m k y => show kMapPut P ty m k y call t = kMapPut P ty m k y call u; simp only [kMapPut, h m (by simp [Op.operands]), h k (by simp [Op.operands]), h y (by simp [Op.operands])]
  case typeAssert y xt asserted ok => show kAssert P asserted ok y call t = kAssert P asserted ok y call u; simp only [kAssert, h y (by simp [Op.operands])]
  case range ty y => show kRange P ty y call t = kRange P ty y call u; simp only [kRange, h y (by simp [Op.operands])]
  case entry y => show kEntry y call t = kEntry y call u; simp only [kEntry, h y (by simp [Op.operands])]
  case next y isS =>
    cases isS with
    | true => show kNextStr y call t = kNextStr y call u; simp only [kNextStr, h y (by simp [Op.operands])]
    | false => rfl
  case extract y i => show kExtract y i call t = kExtract y i call u; simp only [kExtract, h y (by simp [Op.operands])]
  case call c =>
    obtain ⟨callee, args, ts⟩ := c
    have ha : ∀ (cl : Callee), (∀ y ∈ (Op.call ⟨cl, args, ts⟩).operands, opd t y = opd u y) → opds (opd t) args.toList = opds (opd u) args.toList := fun cl hh =>
      opds_congr fun y hy => hh y (by simp only [Op.operands, Call.operands, Array.mem_append]; exact .inr (Array.mem_toList_iff.1 hy))
    cases callee with
    | builtin b => show kBuiltin P b ts args.toList call t = kBuiltin P b ts args.toList call u; simp only [kBuiltin, ha _ h]
    | value f => show kCall f args.toList call t = kCall f args.toList call u; simp only [kCall, ha _ h, h f (by simp [Op.operands, Call.operands])]
    | invoke r name => show kInvoke P r name args.toList call t = kInvoke P r name args.toList call u; simp only [kInvoke, ha _ h, h r (by simp [Op.operands, Call.operands])]
  all_goals rfl
theorem opd_same {y : Operand} (h : ∀ d, y = .tmp d → t.get d = u.get d) : opd t y = opd u y := by
  cases y with
  | tmp d => show t.get d = u.get d; rw [h d rfl]
  | _ => rfl
theorem aone_congr {nt : Nat} {ops : Array Oper} {o : Oper} (h : ∀ d ∈ o.looksAt ops, t.get d = u.get d) {s s1 : AS} {t1 : Tr AV} (hr : aone P call nt ops o t s = .ok t1 s1) :
    ∃ v, aput nt t o.dst v = some t1 ∧ ∀ u1, aput nt u o.dst v = some u1 → aone P call nt ops o u s = .ok u1 s1 := by
  have hop : (opB P o.op).val call t = (opB P o.op).val call u := opB_congr fun y hy => opd_same fun d hd => h d (by
    unfold Oper.looksAt
    refine List.mem_append_left _ (List.mem_filterMap.2 ⟨y, Array.mem_toList_iff.2 hy, by rw [hd]⟩))
  have main : kOp (opB P o.op) o.dst call nt t s = .ok t1 s1 → ∃ v, aput nt t o.dst v = some t1 ∧ ∀ u1, aput nt u o.dst v = some u1 → kOp (opB P o.op) o.dst call nt u s = .ok u1 s1 := by
    intro hk
    unfold kOp at hk
    obtain ⟨v, s2, h1, h2⟩ := M.bind_inv hk
    obtain ⟨h3, rfl⟩ := lift_inv h2
    refine ⟨v, h3, fun u1 hu => ?_⟩
    unfold kOp
    rw [← hop, M.bind_ok h1]
    unfold lift
    rw [hu]
  unfold aone slotB at hr ⊢
  cases hg : o.guard with
  | none =>
    rw [hg] at hr
    exact main hr
  | some g =>
    rw [hg] at hr
    have hr' : kOpIf ops g (opB P o.op) o.dst call nt t s = .ok t1 s1 := hr
    have hw : awanted ops g t = awanted ops g u := by
      unfold awanted ayielded
      cases e1 : ops[g.1]? with
      | none => rfl
      | some q =>
        simp only
        cases e2 : q.dst with
        | none => rfl
        | some d =>
          simp only
          rw [h d (by
            unfold Oper.looksAt
            refine List.mem_append_right _ ?_
            rw [hg]
            simp [e1, e2])]
    have hkn : aknown ops t g.1 = aknown ops u g.1 := by
      unfold aknown
      cases e1 : ops[g.1]? with
      | none => rfl
      | some q =>
        simp only
        cases e2 : q.dst with
        | none => rfl
        | some d =>
          simp only
          rw [h d (by
            unfold Oper.looksAt
            refine List.mem_append_right _ ?_
            rw [hg]
            simp [e1, e2])]
    show ∃ v, aput nt t o.dst v = some t1 ∧ ∀ u1, aput nt u o.dst v = some u1 → kOpIf ops g (opB P o.op) o.dst call nt u s = .ok u1 s1
    unfold kOpIf at hr' ⊢
    obtain ⟨hk, hr'⟩ := withB_inv hr'
    rw [← hw, ← hkn, hk, withB_true]
    cases q : awanted ops g t with
    | true => rw [q] at hr'; exact main hr'
    | false =>
      rw [q] at hr'
      obtain ⟨h3, rfl⟩ := lift_inv (show lift (aput nt t o.dst aundef) s = .ok t1 s1 from hr')
      refine ⟨aundef, h3, fun u1 hu => ?_⟩
      show lift (aput nt u o.dst aundef) s1 = .ok u1 s1
      unfold lift
      rw [hu]
end
end Go.Rn
