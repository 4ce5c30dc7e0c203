/- Steps of a frame. -/
import Derived.Test.YtcjmdcndalcomaaGreatDoorRnDraw2
import Derived.RangeFuncIn
import Derived.RangeFuncLeaves
namespace Go.Rn
open Go.RowKit

def RoundR (ρ : Ren) : Option Nat → Option Nat → Prop
  | none, none => True
  | some l, some b => ∃ N, ρ l = some (b, N)
  | _, _ => False
theorem RoundR.mono {ρ σ : Ren} (h : ρ.le σ) : ∀ {x y : Option Nat}, RoundR ρ x y → RoundR σ x y
  | none, none, k => k
  | some _, some _, ⟨N, e⟩ => ⟨N, h _ _ e⟩
  | none, some _, k => k
  | some _, none, k => k
def DefR (ρ : Ren) : List Nat → List Deferred → Prop
  | [], l => l = []
  | d :: ds, l => ∃ b N r, l = { target := .collected b, args := #[] } :: r ∧ ρ d = some (b, N) ∧ DefR ρ ds r
theorem DefR.mono {ρ σ : Ren} (h : ρ.le σ) : ∀ {x : List Nat} {y : List Deferred}, DefR ρ x y → DefR σ x y
  | [], _, k => k
  | _ :: _, _, ⟨b, N, r, e, a, d⟩ => ⟨b, N, r, e, h _ _ a, d.mono h⟩

def Stp.fr : Stp → AF
  | .go fr => fr
  | .leave fr _ => fr
def Leaves (j : Option Code) (todo : List Item) : Prop :=
  match j with
  | none => todo = []
  | some .ret => ∃ k, todo = .code .ret :: k
  | some (.exit id) => ∃ k, todo = .code (.exit id) :: k ∧ exitTo id k = none
  | some (.goto l) => ∃ k, todo = .code (.goto l) :: k ∧ gotoIn l k = none
  | _ => False
def Stp.ok : Stp → Prop
  | .go _ => True
  | .leave fr j => Leaves j fr.todo
theorem Leaves.code {j : Option Code} {todo : List Item} (h : Leaves j todo) : ∀ c, j = some c → CodeOk c := by
  intro c e
  subst e
  cases c <;> first | trivial | cases h

/-- A frame is one under names. -/
structure Fr (ρ : Ren) (af : AF) (b : Frame) (a : Act) : Prop where
  fn : b.fn = af.fn
  kind : b.kind = .normal
  round : RoundR ρ af.round b.roundOf
  defs : DefR ρ af.defers a.defers
  ok : ItemsOk af.todo

/-- It has gone on. -/
def Went (P : Program) (B : Nat) (ρ : Ren) (s s1 : AS) (w : World) (af : AF) (b : Frame) (cs : List Frame) (m : Machine) (x : Stp) : Prop :=
  ∃ σ a' w', Ext s.nx s1.nx ρ σ ∧ At B σ s1 af.nt x.fr.tmps w' a' ∧ DefR σ x.fr.defers a'.defers ∧ Below B w w' ∧ (x.fr.fn = af.fn ∧ x.fr.nt = af.nt ∧ x.fr.round = af.round) ∧ ItemsOk x.fr.todo ∧ x.ok ∧ Steps P m (lone (b.atR a' x.fr.todo) cs w')

section
variable {P : Program} {B : Nat} {ρ : Ren} {w : World} {s s1 : AS} {call : Caller} {b : Frame} {a : Act} {cs : List Frame}

theorem run_getLoopObj {l : Nat} {r : Loop} (hb : w.heap[l]? = some (.loop r)) : (Instr.getLoop l).run P w = .ok r w := by
  simp [Instr.getLoop, getObj, Sem.run, hb]
theorem run_setLoopObj {l : Nat} {r : Loop} {o : Obj} (hb : w.heap[l]? = some (.loop r)) : (setObj l o).run P w = .ok () { w with heap := w.heap.setIfInBounds l o } := by
  simp [setObj, Sem.run, hb]

theorem getLoop_inv {l : Nat} {o : AObj} (h : getLoop l s = .ok o s1) : rdN l s = .ok o s1 ∧ ∃ st pend fn t nt ps aa bb d, o = .loop st pend fn t nt ps aa bb d := by
  unfold getLoop at h
  obtain ⟨o', s2, h1, h2⟩ := M.bind_inv h
  split at h2
  · obtain ⟨rfl, rfl⟩ := pure_inv h2
    exact ⟨h1, _, _, _, _, _, _, _, _, _, rfl⟩
  · cases h2

/-- A loop's record is turned. -/
theorem loop_put {st st' : LoopState} {pend pend' : Option Code} {fn nt d l : Nat} {t : Tr AV} {ps : List Tmp} {aa bb : Code} {u : Unit} {bl N : Nat} {s2 : AS} (fi : Fine s) (r : Rel B ρ s.h w) (hg : rdN l s = .ok (.loop st pend fn t nt ps aa bb d) s2)
    (hl : ρ l = some (bl, N)) (hok : ∀ c, pend' = some c → CodeOk c) (h : wrN l (some (.loop st' pend' fn t nt ps aa bb d)) s2 = .ok u s1) :
    s1.nx = s.nx ∧ ∃ q : Loop, w.heap[bl]? = some (.loop q) ∧ q.state = st ∧ q.pending = pend ∧ q.fn = fn ∧ TR ρ nt t q.tmps ∧ q.params = ps.toArray ∧ q.assign = aa ∧ q.body = bb ∧ nt ≤ top ∧ LoopOk pend aa bb ∧
      Rel B ρ s1.h { w with heap := w.heap.setIfInBounds bl (.loop { q with state := st', pending := pend' }) } ∧ Below B w { w with heap := w.heap.setIfInBounds bl (.loop { q with state := st', pending := pend' }) } := by
  obtain ⟨hx, hget, hh, hnx⟩ := rdN_same hg
  have ht : l < top := Nat.lt_of_lt_of_le hx fi.nx
  obtain ⟨o', hb, hO, hB⟩ := r.block ht hget hl
  obtain ⟨ta, db, M, rfl, htr, hnt, hd, hlo⟩ := hO
  obtain ⟨_, _, _, e1, e2⟩ := wrN_same h
  obtain ⟨g3, g4⟩ := setObj_only (o' := .loop { state := st', pending := pend', fn := fn, tmps := ta, params := ps.toArray, assign := aa, body := bb, defers := db }) hb
  refine ⟨by rw [e2, hnx], _, hb, rfl, rfl, rfl, htr, rfl, rfl, rfl, hnt, hlo, ?_, g3.below (hB rfl)⟩
  rw [e1, hh]
  exact r.put ht hget rfl rfl hl rfl g3 g4 ⟨ta, db, M, rfl, htr, hnt, hd, hok, hlo.assign, hlo.body⟩

theorem loopOver_sim {l bl N : Nat} {p : Option Code} (fi : Fine s) (r : Rel B ρ s.h w) (hl : ρ l = some (bl, N)) (h : loopOver l s = .ok p s1) :
    s1.nx = s.nx ∧ (∀ c, p = some c → CodeOk c) ∧ ∃ w', (Instr.endLoop bl).run P w = .ok p w' ∧ Rel B ρ s1.h w' ∧ Below B w w' := by
  unfold loopOver at h
  obtain ⟨o, s2, h1, h2⟩ := M.bind_inv h
  obtain ⟨h3, st, pend, fn, t, nt, ps, aa, bb, d, rfl⟩ := getLoop_inv h1
  obtain ⟨h4, h5⟩ := withB_inv h2
  obtain ⟨u, s3, h6, h7⟩ := M.bind_inv h5
  obtain ⟨rfl, rfl⟩ := pure_inv h7
  have hget := (rdN_same h3)
  have hok : ∀ c, p = some c → CodeOk c := by
    obtain ⟨o', hb, hO, _⟩ := r.block (Nat.lt_of_lt_of_le hget.1 fi.nx) hget.2.1 hl
    obtain ⟨_, _, _, _, _, _, _, hlo⟩ := hO
    exact hlo.pend
  obtain ⟨e1, q, e2, e3, e4, _, _, _, _, _, _, _, e5, e6⟩ := loop_put fi r h3 hl hok h6
  refine ⟨e1, hok, _, ?_, e5, e6⟩
  have hne : (q.state == LoopState.busy) = false := by
    rw [e3]; cases st <;> first | rfl | cases h4
  simp only [Instr.endLoop, Sem.run_bind, run_getLoopObj e2, Result.andThen_ok, hne, Bool.false_eq_true, if_false, run_setLoopObj e2, Sem.run_pure, e4]

/-- What comes back of the call that a range over a function is. -/
theorem rangeCall_steps {g : Operand} {ps : Array Tmp} {assign body : Code} {k : List Item} {l : Nat} {mark : List Deferred} {w₁ : World} {R : Value → World → Prop}
    (he : (Instr.enterLoop b.fn a.tmps ps assign body b.roundOf).run P w = .ok (l, mark) w₁)
    (h : Back P ((do let d ← Deferred.ofValue (a.eval g) #[.func (.yield l) #[] #[]]; invoke d.target d.args : Sem Next).run P w₁) R) :
    ∃ v w', R v w' ∧ Steps P (lone (b.atR a (.code (.rangeFunc g ps assign body) :: k)) cs w) (lone (b.atR { a with defers := mark ++ a.defers } (.endRangeFunc l :: k)) cs w') := by
  have hev := Frame.eval_atR b { a with defers := mark ++ a.defers } (.inRangeFunc l :: k)
  simp only [Frame.atR] at hev
  have hres : (do let d ← resolve ({ tmps := a.tmps, defers := mark ++ a.defers } : Act).eval { callee := .value g, args := #[.const (.func (.yield l) #[] #[])], argTypes := #[] } 0; invoke d.target d.args : Sem Next) =
      (do let d ← Deferred.ofValue (a.eval g) #[.func (.yield l) #[] #[]]; invoke d.target d.args : Sem Next) := by
    have e1 : ({ tmps := a.tmps, defers := mark ++ a.defers } : Act).eval g = a.eval g := by cases g <;> rfl
    have e2 : (#[Operand.const (Value.func (Fn.yield l) #[] #[])] : Array Operand).map ({ tmps := a.tmps, defers := mark ++ a.defers } : Act).eval = #[Value.func (Fn.yield l) #[] #[]] := by simp [Act.eval]
    simp only [resolve, e1, e2]
  generalize hr : (do let d ← Deferred.ofValue (a.eval g) #[.func (.yield l) #[] #[]]; invoke d.target d.args : Sem Next).run P w₁ = res at h
  rw [← hres] at hr
  have hstep : stepG P true { frame := b.atR a (.code (.rangeFunc g ps assign body) :: k), callers := cs, status := .running, dying := none } w =
      GStep.after (seen P b.fn ((Instr.enterLoop b.fn a.tmps ps assign body b.roundOf).runT P w #[]).2)
        (stepG.apply P true (b.atR { a with defers := mark ++ a.defers } (.inRangeFunc l :: k)) cs none
          (do let d ← resolve ({ tmps := a.tmps, defers := mark ++ a.defers } : Act).eval { callee := .value g, args := #[.const (.func (.yield l) #[] #[])], argTypes := #[] } 0; invoke d.target d.args) w₁) := by
    simp only [stepG, stepG.exec, Frame.atR, Sem.runT_eq, he, hev]
  unfold Back at h
  split at h
  · rename_i v w'
    refine ⟨v, w', h, .one (step_lone_go ?_)⟩
    rw [hstep, GStep.bare_after, ← finish_atR_inRangeFunc l v]; simp [stepG.apply, hr]
  · rename_i w'
    refine ⟨undef, w', h, .one (step_lone_go ?_)⟩
    rw [hstep, GStep.bare_after, ← finish_atR_inRangeFunc l undef]; simp [stepG.apply, hr]
  · rename_i f args w'
    obtain ⟨e, w'', fr, ⟨v, rfl, hR⟩, hsteps, hfn, hleave⟩ := h (b.atR { a with defers := mark ++ a.defers } (.inRangeFunc l :: k) :: cs)
    have henter : step P (lone (b.atR a (.code (.rangeFunc g ps assign body) :: k)) cs w) = .next (lone (Frame.enter P f args .normal) (b.atR { a with defers := mark ++ a.defers } (.inRangeFunc l :: k) :: cs) w') :=
      step_lone_go (by rw [hstep, GStep.bare_after]; simp [stepG.apply, hr, Frame.atR])
    refine ⟨v, w'', hR, .head henter (Steps.trans hsteps (.one ?_))⟩
    rw [← finish_atR_inRangeFunc l v]; exact step_leave_returned hleave
  · rename_i l' f tmps assign' body' w'
    obtain ⟨v, w'', hR, hsteps⟩ := h (b.atR { a with defers := mark ++ a.defers } (.inRangeFunc l :: k)) cs
    have henter : step P (lone (b.atR a (.code (.rangeFunc g ps assign body) :: k)) cs w) = .next (lone (Frame.round l' f tmps assign' body' .normal) (b.atR { a with defers := mark ++ a.defers } (.inRangeFunc l :: k) :: cs) w') :=
      step_lone_go (by rw [hstep, GStep.bare_after]; simp [stepG.apply, hr, Frame.atR])
    refine ⟨v, w'', hR, .head henter ?_⟩
    rw [← finish_atR_inRangeFunc l v]; exact hsteps
  · cases h
end
end Go.Rn
