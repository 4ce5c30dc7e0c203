/- Steps of a frame. -/
import Derived.Test.YtbnjeblcleihkaaGreatDoorRnDrawA
import Derived.RangeFuncIn
import Derived.RangeFuncLeaves
namespace Go.Rn
open Go.RowKit
def RoundR (ρ : Ren) : Option Nat → Option Nat → Prop
  | none, none => True
  | some l, some b => ∃ N, ρ l = some (b, N)
  | _, _ => False
theorem RoundR.mono {ρ σ : Ren} (h : ρ.le σ) : ∀ {x y : Option Nat}, RoundR ρ x y → RoundR σ x y
  | none, none, k => k
  | some _, some _, ⟨N, e⟩ => ⟨N, h _ _ e⟩
  | none, some _, k => k
  | some _, none, k => k
def DefR (ρ : Ren) : List Nat → List Deferred → Prop
  | [], l => l = []
  | d :: ds, l => ∃ b N r, l = { target := .collected b, args := #[] } :: r ∧ ρ d = some (b, N) ∧ DefR ρ ds r
theorem DefR.mono {ρ σ : Ren} (h : ρ.le σ) : ∀ {x : List Nat} {y : List Deferred}, DefR ρ x y → DefR σ x y
  | [], _, k => k
  | _ :: _, _, ⟨b, N, r, e, a, d⟩ => ⟨b, N, r, e, h _ _ a, d.mono h⟩
def Stp.fr : Stp → AF
  | .go fr => fr
  | .leave fr _ => fr
def Leaves (j : Option Code) (todo : List Item) : Prop :=
  match j with
  | none => todo = []
  | some .ret => ∃ k, todo = .code .ret :: k
  | some (.exit id) => ∃ k, todo = .code (.exit id) :: k ∧ exitTo id k = none
  | some (.goto l) => ∃ k, todo = .code (.goto l) :: k ∧ gotoIn l k = none
  | _ => False
def Stp.ok : Stp → Prop
  | .go _ => True
  | .leave fr j => Leaves j fr.todo
theorem Leaves.code {j : Option Code} {todo : List Item} (h : Leaves j todo) : ∀ c, j = some c → CodeOk c := by
  intro c e
  subst e
  cases c <;> first | trivial | cases h
structure Fr (ρ : Ren) (af : AF) (b : Frame) (a : Act) : Prop where
  fn : b.fn = af.fn
  kind : b.kind = .normal
  round : RoundR ρ af.round b.roundOf
  defs : DefR ρ af.defers a.defers
  ok : ItemsOk af.todo
def Went (P : Program) (B : Base) (ρ : Ren) (s s1 : AS) (w : World) (af : AF) (b : Frame) (cs : List Frame) (m : Machine) (x : Stp) : Prop :=
  ∃ σ a' w', Ext s.nx s1.nx ρ σ ∧ At B σ s1 af.nt x.fr.tmps w' a' ∧ DefR σ x.fr.defers a'.defers ∧ Bel B w w' ∧ (x.fr.fn = af.fn ∧ x.fr.nt = af.nt ∧ x.fr.round = af.round) ∧ ItemsOk x.fr.todo ∧ x.ok ∧ Steps P m (lone (b.atR a' x.fr.todo) cs w')
section
variable {P : Program} {B : Base} {ρ : Ren} {w : World} {s s1 : AS} {call : Caller} {b : Frame} {a : Act} {cs : List Frame}
theorem run_getLoopObj {l : Nat} {r : Loop} (hb : w.heap[l]? = some (.loop r)) : (Instr.getLoop l).run P w = .ok r w := by
  simp [Instr.getLoop, getObj, Sem.run, hb]
theorem run_setLoopObj {l : Nat} {r : Loop} {o : Obj} (hb : w.heap[l]? = some (.loop r)) : (setObj l o).run P w = .ok () { w with heap := w.heap.setIfInBounds l o } := by
  simp [setObj, Sem.run, hb]
theorem getLoop_inv {l : Nat} {o : AObj} (h : getLoop l s = .ok o s1) : rdN l s = .ok o s1 ∧ ∃ st pend fn t nt ps aa bb d, o = .loop st pend fn t nt ps aa bb d := by
  unfold getLoop at h
  obtain ⟨o', s2, h1, h2⟩ := M.bind_inv h
  split at h2
  · obtain ⟨rfl, rfl⟩ := pure_inv h2
    exact ⟨h1, _, _, _, _, _, _, _, _, _, rfl⟩
  · cases h2
theorem loop_put {st st' : LoopState} {pend pend' : Option Code} {fn nt d l : Nat} {t : Tr AV} {ps : List Tmp} {aa bb : Code} {u : Unit} {bl N : Nat} {s2 : AS} (fi : Fine s) (r : Rel B ρ s.h w) (hg : rdN l s = .ok (.loop st pend fn t nt ps aa bb d) s2)
    (hl : ρ l = some (bl, N)) (hok : ∀ c, pend' = some c → CodeOk c) (h : wrN l (some (.loop st' pend' fn t nt ps aa bb d)) s2 = .ok u s1) :
    s1.nx = s.nx ∧ ∃ q : Loop, w.heap[bl]? = some (.loop q) ∧ q.state = st ∧ q.pending = pend ∧ q.fn = fn ∧ TR ρ nt t q.tmps ∧ q.params = ps.toArray ∧ q.assign = aa ∧ q.body = bb ∧ nt ≤ top ∧ LoopOk pend aa bb ∧
      Rel B ρ s1.h { w with heap := w.heap.setIfInBounds bl (.loop { q with state := st', pending := pend' }) } ∧ Bel B w { w with heap := w.heap.setIfInBounds bl (.loop { q with state := st', pending := pend' }) } := by
  obtain ⟨hx, hget, hh, hnx⟩ := rdN_same hg
  have ht : l < top := Nat.lt_of_lt_of_le hx fi.nx
  obtain ⟨o', hb, hO, hB⟩ := r.block ht hget hl
  obtain ⟨ta, db, M, rfl, htr, hnt, hd, hlo⟩ := hO
  obtain ⟨_, _, _, e1, e2⟩ := wrN_same h
  obtain ⟨g3, g4⟩ := setObj_only (o' := .loop { state := st', pending := pend', fn := fn, tmps := ta, params := ps.toArray, assign := aa, body := bb, defers := db }) hb
  refine ⟨by rw [e2, hnx], _, hb, rfl, rfl, rfl, htr, rfl, rfl, rfl, hnt, hlo, ?_, g3.below (hB rfl)⟩
  rw [e1, hh]
  exact r.put ht hget rfl rfl hl rfl g3 g4 ⟨ta, db, M, rfl, htr, hnt, hd, hok, hlo.assign, hlo.body⟩
theorem loopOver_sim {l bl N : Nat} {p : Option Code} (fi : Fine s) (r : Rel B ρ s.h w) (hl : ρ l = some (bl, N)) (h : loopOver l s = .ok p s1) :
    s1.nx = s.nx ∧ (∀ c, p = some c → CodeOk c) ∧ ∃ w', (Instr.endLoop bl).run P w = .ok p w' ∧ Rel B ρ s1.h w' ∧ Bel B w w' := by
  unfold loopOver at h
  obtain ⟨o, s2, h1, h2⟩ := M.bind_inv h
  obtain ⟨h3, st, pend, fn, t, nt, ps, aa, bb, d, rfl⟩ := getLoop_inv h1
  obtain ⟨h4, h5⟩ := withB_inv h2
  obtain ⟨u, s3, h6, h7⟩ := M.bind_inv h5
  obtain ⟨rfl, rfl⟩ := pure_inv h7
  have hget := (rdN_same h3)
  have hok : ∀ c, p = some c → CodeOk c := by
    obtain ⟨o', hb, hO, _⟩ := r.block (Nat.lt_of_lt_of_le hget.1 fi.nx) hget.2.1 hl
    obtain ⟨_, _, _, _, _, _, _, hlo⟩ := hO
    exact hlo.pend
  obtain ⟨e1, q, e2, e3, e4, _, _, _, _, _, _, _, e5, e6⟩ := loop_put fi r h3 hl hok h6
  refine ⟨e1, hok, _, ?_, e5, e6⟩
  have hne : (q.state == LoopState.busy) = false := by
    rw [e3]; cases st <;> first | rfl | cases h4
  simp only [Instr.endLoop, Sem.run_bind, run_getLoopObj e2, Result.andThen_ok, hne, Bool.false_eq_true, if_false, run_setLoopObj e2, Sem.run_pure, e4]
theorem rangeCall_steps {g : Operand} {ps : Array Tmp} {assign body : Code} {k : List Item} {l : Nat} {mark : List Deferred} {w₁ : World} {R : Value → World → Prop}
    (he : (Instr.enterLoop b.fn a.tmps ps assign body b.roundOf).run P w = .ok (l, mark) w₁)
    (h : Back P ((do let d ← Deferred.ofValue (a.eval g) #[.func (.yield l) #[] #[]]; invoke d.target d.args : Sem Next).run P w₁) R) :
    ∃ v w', R v w' ∧ Steps P (lone (b.atR a (.code (.rangeFunc g ps assign body) :: k)) cs w) (lone (b.atR { a with defers := mark ++ a.defers } (.endRangeFunc l :: k)) cs w') := by
  have hev := Frame.eval_atR b { a with defers := mark ++ a.defers } (.inRangeFunc l :: k)
  simp only [Frame.atR] at hev
  have hres : (do let d ← resolve ({ tmps := a.tmps, defers := mark ++ a.defers } : Act).eval { callee := .value g, args := #[.const (.func (.yield l) #[] #[])], argTypes := #[] } 0; invoke d.target d.args : Sem Next) =
      (do let d ← Deferred.ofValue (a.eval g) #[.func (.yield l) #[] #[]]; invoke d.target d.args : Sem Next) := by
    have e1 : ({ tmps := a.tmps, defers := mark ++ a.defers } : Act).eval g = a.eval g := by cases g <;> rfl
    have e2 : (#[Operand.const (Value.func (Fn.yield l) #[] #[])] : Array Operand).map ({ tmps := a.tmps, defers := mark ++ a.defers } : Act).eval = #[Value.func (Fn.yield l) #[] #[]] := by simp [Act.eval]
    simp only [resolve, e1, e2]
  generalize hr : (do let d ← Deferred.ofValue (a.eval g) #[.func (.yield l) #[] #[]]; invoke d.target d.args : Sem Next).run P w₁ = res at h
  rw [← hres] at hr
  have hstep : stepG P true { frame := b.atR a (.code (.rangeFunc g ps assign body) :: k), callers := cs, status := .running, dying := none } w =
      GStep.after (seen P b.fn ((Instr.enterLoop b.fn a.tmps ps assign body b.roundOf).runT P w #[]).2)
        (stepG.apply P true (b.atR { a with defers := mark ++ a.defers } (.inRangeFunc l :: k)) cs none
          (do let d ← resolve ({ tmps := a.tmps, defers := mark ++ a.defers } : Act).eval { callee := .value g, args := #[.const (.func (.yield l) #[] #[])], argTypes := #[] } 0; invoke d.target d.args) w₁) := by
    simp only [stepG, stepG.exec, Frame.atR, Sem.runT_eq, he, hev]
  unfold Back at h
  split at h
  · rename_i v w'
    refine ⟨v, w', h, .one (step_lone_go ?_)⟩
    rw [hstep, GStep.bare_after, ← finish_atR_inRangeFunc l v]; simp [stepG.apply, hr]
  · rename_i w'
    refine ⟨undef, w', h, .one (step_lone_go ?_)⟩
    rw [hstep, GStep.bare_after, ← finish_atR_inRangeFunc l undef]; simp [stepG.apply, hr]
  · rename_i f args w'
    obtain ⟨e, w'', fr, ⟨v, rfl, hR⟩, hsteps, hfn, hleave⟩ := h (b.atR { a with defers := mark ++ a.defers } (.inRangeFunc l :: k) :: cs)
    have henter : step P (lone (b.atR a (.code (.rangeFunc g ps assign body) :: k)) cs w) = .next (lone (Frame.enter P f args .normal) (b.atR { a with defers := mark ++ a.defers } (.inRangeFunc l :: k) :: cs) w') :=
      step_lone_go (by rw [hstep, GStep.bare_after]; simp [stepG.apply, hr, Frame.atR])
    refine ⟨v, w'', hR, .head henter (Steps.trans hsteps (.one ?_))⟩
    rw [← finish_atR_inRangeFunc l v]; exact step_leave_returned hleave
  · rename_i l' f tmps assign' body' w'
    obtain ⟨v, w'', hR, hsteps⟩ := h (b.atR { a with defers := mark ++ a.defers } (.inRangeFunc l :: k)) cs
    have henter : step P (lone (b.atR a (.code (.rangeFunc g ps assign body) :: k)) cs w) = .next (lone (Frame.round l' f tmps assign' body' .normal) (b.atR { a with defers := mark ++ a.defers } (.inRangeFunc l :: k) :: cs) w') :=
      step_lone_go (by rw [hstep, GStep.bare_after]; simp [stepG.apply, hr, Frame.atR])
    refine ⟨v, w'', hR, .head henter ?_⟩
    rw [← finish_atR_inRangeFunc l v]; exact hsteps
  · cases h
end
end Go.Rn

namespace Go.Rn
open Go.RowKit
section
variable {P : Program} {B : Base} {ρ : Ren} {w : World} {s s1 : AS} {call : Caller} {b : Frame} {a : Act} {cs : List Frame}
theorem went_calm {af : AF} {x : Stp} (hfr : Fr ρ af b a) (hat : At B ρ s af.nt af.tmps w a) (h1 : x.fr.tmps = af.tmps) (h2 : x.fr.defers = af.defers) (h3 : x.fr.fn = af.fn ∧ x.fr.nt = af.nt ∧ x.fr.round = af.round) (h4 : ItemsOk x.fr.todo) (h5 : x.ok)
    (h6 : Steps P (lone (b.atR a af.todo) cs w) (lone (b.atR a x.fr.todo) cs w)) : Went P B ρ s s w af b cs (lone (b.atR a af.todo) cs w) x :=
  ⟨ρ, a, w, Ext.refl _ _ _, by rw [h1]; exact hat, by rw [h2]; exact hfr.defs, Bel.refl _ _, h3, h4, h5, h6⟩
theorem went_goes {af fr : AF} (hfr : Fr ρ af b a) {k : List Item} {t : Tr AV} (hx : fr = { af with tmps := t, todo := k }) (hk : ItemsOk k)
    (h : Goes P B ρ s s1 af.nt t w a (lone (b.atR a af.todo) cs w) (fun a' w' => lone (b.atR a' k) cs w')) : Went P B ρ s s1 w af b cs (lone (b.atR a af.todo) cs w) (.go fr) := by
  subst hx
  obtain ⟨σ, a', w', e1, e2, e3, e4, e5⟩ := h
  exact ⟨σ, a', w', e1, e2, by rw [e3]; exact hfr.defs.mono e1.le, e4, ⟨rfl, rfl, rfl⟩, hk, trivial, e5⟩
theorem two_new {fn nt : Nat} {t : Tr AV} {ps : Array Tmp} {assign body : Code} (hat : At B ρ s nt t w a) (h1 : ρ s.nx = none) (h2 : ρ (s.nx + 1) = none) (l1 : s.nx < top) (l2 : s.nx + 1 < top) (hlo : LoopOk none assign body) :
    ∃ σ, Ext s.nx (s.nx + 2) ρ σ ∧ σ s.nx = some (w.heap.size, 0) ∧ σ (s.nx + 1) = some (w.heap.size + 1, 0) ∧
      (Instr.enterLoop fn a.tmps ps assign body none).run P w = .ok (w.heap.size + 1, [{ target := .collected w.heap.size, args := #[] }])
        { w with heap := (w.heap.push (.deferred (some []))).push (.loop { state := .ready, pending := none, fn, tmps := a.tmps, params := ps, assign, body, defers := w.heap.size }) } ∧
      Rel B σ ((s.h.put s.nx (some .defs)).put (s.nx + 1) (some (.loop .ready none fn t nt ps.toList assign body s.nx)))
        { w with heap := (w.heap.push (.deferred (some []))).push (.loop { state := .ready, pending := none, fn, tmps := a.tmps, params := ps, assign, body, defers := w.heap.size }) } ∧
      Bel B w { w with heap := (w.heap.push (.deferred (some []))).push (.loop { state := .ready, pending := none, fn, tmps := a.tmps, params := ps, assign, body, defers := w.heap.size }) } := by
  have r1 := hat.rel.new (n := s.nx) (o := .defs) (o' := .deferred (some [])) (N := 0) l1 h1 rfl rfl
  have hn2 : updR ρ s.nx (w.heap.size, 0) (s.nx + 1) = none := by rw [updR_ne ρ _ (by omega)]; exact h2
  have hle1 : ρ.le (updR ρ s.nx (w.heap.size, 0)) := updR_le h1
  have hle2 : (updR ρ s.nx (w.heap.size, 0)).le (updR (updR ρ s.nx (w.heap.size, 0)) (s.nx + 1) (w.heap.size + 1, 0)) := updR_le hn2
  have hsz : ({ w with heap := w.heap.push (.deferred (some [])) } : World).heap.size = w.heap.size + 1 := by simp
  have r2 := r1.new (n := s.nx + 1) (o := .loop .ready none fn t nt ps.toList assign body s.nx) (o' := .loop { state := .ready, pending := none, fn, tmps := a.tmps, params := ps, assign, body, defers := w.heap.size }) (N := 0) l2 hn2 rfl (by
    rw [hsz]
    exact ⟨a.tmps, w.heap.size, 0, by simp, (hat.tr.mono hle1).mono hle2, hat.nt, hle2 _ _ (updR_self _ _ _), hlo⟩)
  rw [hsz] at r2
  refine ⟨_, ⟨Ren.le_trans hle1 hle2, fun k hk => ?_⟩, hle2 _ _ (updR_self _ _ _), updR_self _ _ _, ?_, r2, ?_⟩
  · rw [updR_ne _ _ (by omega), updR_ne _ _ (by omega)]
  · simp only [Instr.enterLoop, Sem.run_bind, newObj, Sem.run, Result.andThen_ok, Sem.run_pure]
    simp
  · exact ((Grew.alloc w _).trans (Grew.alloc _ _)).below hat.rel.size
theorem one_new {fn nt l0 bl N : Nat} {t : Tr AV} {ps : Array Tmp} {assign body : Code} {st : LoopState} {pend : Option Code} {f0 nt0 d0 : Nat} {t0 : Tr AV} {ps0 : List Tmp} {a0 b0 : Code} {s2 : AS} (hat : At B ρ s nt t w a) (h1 : ρ s.nx = none) (l1 : s.nx < top) (hlo : LoopOk none assign body)
    (hg : rdN l0 s = .ok (.loop st pend f0 t0 nt0 ps0 a0 b0 d0) s2) (hl : ρ l0 = some (bl, N)) :
    ∃ σ w', Ext s.nx (s.nx + 1) ρ σ ∧ (∃ bb M, σ s.nx = some (bb, M) ∧ (Instr.enterLoop fn a.tmps ps assign body (some bl)).run P w = .ok (bb, []) w') ∧
      Rel B σ (s.h.put s.nx (some (.loop .ready none fn t nt ps.toList assign body d0))) w' ∧ Bel B w w' := by
  obtain ⟨hx, hget, hh, hnx⟩ := rdN_same hg
  have ht : l0 < top := Nat.lt_of_lt_of_le hx hat.fine.nx
  obtain ⟨o', hb, hO, hB⟩ := hat.rel.block ht hget hl
  obtain ⟨ta, db, M, rfl, htr, hnt, hd, _⟩ := hO
  have hle1 : ρ.le (updR ρ s.nx (w.heap.size, 0)) := updR_le h1
  have r1 := hat.rel.new (n := s.nx) (o := .loop .ready none fn t nt ps.toList assign body d0) (o' := .loop { state := .ready, pending := none, fn, tmps := a.tmps, params := ps, assign, body, defers := db }) (N := 0) l1 h1 rfl
    ⟨a.tmps, db, M, by simp, hat.tr.mono hle1, hat.nt, hle1 _ _ hd, hlo⟩
  refine ⟨_, _, Ext.upd h1, ⟨w.heap.size, 0, updR_self _ _ _, ?_⟩, r1, (Grew.alloc w _).below hat.rel.size⟩
  simp only [Instr.enterLoop, Sem.run_bind, run_getLoopObj hb, Result.andThen_ok, Sem.run_pure, newObj, Sem.run]
theorem itemsOk_andThen {p : Option Code} {k : List Item} (hp : ∀ c, p = some c → CodeOk c) (hk : ItemsOk k) : ItemsOk (andThen p k) := by
  cases p with
  | none => exact hk
  | some c => exact .cons (hp c rfl) hk
theorem andThen_eq (p : Option Code) (k : List Item) : (p.map Item.code).toList ++ k = andThen p k := by cases p <;> rfl
theorem range_sim {af : AF} {f : Operand} {ps : Array Tmp} {assign body : Code} {k : List Item} {x : Stp} (hc : CallSim P B call) (hl : ∀ t a, Local (call t a)) (hfr : Fr ρ af b a) (hat : At B ρ s af.nt af.tmps w a) (hf : Free s.nx s1.nx ρ)
    (htodo : af.todo = .code (.rangeFunc f ps assign body) :: k) (h : sRange f ps.toList assign body call af.fn af.tmps af.nt af.defers af.round k s = .ok x s1) : Went P B ρ s s1 w af b cs (lone (b.atR a af.todo) cs w) x := by
  have hcode : CodeOk assign ∧ CodeOk body := by have := hfr.ok; rw [htodo] at this; exact this.head
  have hlo : LoopOk none assign body := ⟨(fun c e => by cases e), hcode.1, hcode.2⟩
  have hk : ItemsOk k := by have := hfr.ok; rw [htodo] at this; exact this.tail
  unfold sRange at h
  cases hr : af.round with
  | none =>
    rw [hr] at h
    have hround := hfr.round
    rw [hr] at hround
    have hbr : b.roundOf = none := by
      cases e : b.roundOf with
      | none => rfl
      | some _ => rw [e] at hround; cases hround
    obtain ⟨df, s2, h1, h⟩ := M.bind_inv h
    obtain ⟨l, s3, h2, h⟩ := M.bind_inv h
    obtain ⟨g, h3, h⟩ := withO_inv h
    obtain ⟨y, s4, h4, h⟩ := M.bind_inv h
    obtain ⟨p, s5, h5, h⟩ := M.bind_inv h
    obtain ⟨rfl, rfl⟩ := pure_inv h
    obtain ⟨t1, rfl, rfl⟩ := newN_inv h1
    obtain ⟨t2, rfl, rfl⟩ := newN_inv h2
    have fi3 : Fine { s with h := (s.h.put s.nx (some .defs)).put (s.nx + 1) (some (.loop .ready none af.fn af.tmps af.nt ps.toList assign body s.nx)), nx := s.nx + 1 + 1 } := ⟨by have := hat.fine.mark; show s.mark ≤ s.nx + 1 + 1; omega, t2⟩
    have le4 := (Local.callV hl _ _).le fi3 h4
    have fi4 := (Local.callV hl _ _).fine fi3 h4
    have le5 := (Local.loopOver _).le fi4 h5
    have le4' : s.nx + 2 ≤ s4.nx := le4
    obtain ⟨σ, e1, e2, e3, e4, e5, e6⟩ := two_new (P := P) (fn := af.fn) (ps := ps) hat (hf _ (Nat.le_refl _) (by omega)) (hf _ (by omega) (by omega)) t1 t2 hlo
    have hfv : VR σ g (a.eval f) := (opd_sim hat.tr hat.g h3).mono e1.le
    have hfree : Free (s.nx + 2) s4.nx σ := (hf.sub (Nat.le_refl _) le5).next (by omega) e1
    have hback := callV_sim (P := P) hc (hat.g.mono e1.le) fi3 e5 hfree hfv (args := [.yield (s.nx + 1)]) (vs := #[.func (.yield (w.heap.size + 1)) #[] #[]])
      (by simp only [VRs, VR]; exact ⟨_, _, rfl, ⟨_, _, e3, rfl⟩, rfl⟩) h4
    have hent := (show (Instr.enterLoop b.fn a.tmps ps assign body b.roundOf).run P w = (Instr.enterLoop af.fn a.tmps ps assign body none).run P w by rw [hfr.fn, hbr]).trans e4
    obtain ⟨v, w', ⟨τ, g1, g2, g3, g4⟩, st⟩ := rangeCall_steps (cs := cs) (k := k) hent hback
    obtain ⟨q1, q2, w5, q3, q4, q5⟩ := loopOver_sim (P := P) fi4 g3 (g1.le _ _ e3) h5
    have ext : Ext s.nx s4.nx ρ τ := e1.trans (by omega) le4' g1
    refine ⟨τ, { a with defers := [{ target := .collected w.heap.size, args := #[] }] ++ a.defers }, w5, by rw [q1]; exact ext, ⟨hat.tr.mono ext.le, q4, hat.g.mono ext.le, hat.nt, (Local.loopOver _).fine fi4 h5⟩, ?_, (e6.trans g4).trans q5, ⟨rfl, rfl, hr.symm⟩, itemsOk_andThen q2 hk, trivial, ?_⟩
    · exact ⟨w.heap.size, 0, a.defers, rfl, g1.le _ _ e2, hfr.defs.mono ext.le⟩
    · rw [htodo]
      refine Steps.trans st (.one ?_)
      rw [stepR_endRangeFunc q3, andThen_eq]
      rfl
  | some l0 =>
    rw [hr] at h
    have hround := hfr.round
    rw [hr] at hround
    obtain ⟨bl, hbr, N0, hl0⟩ : ∃ bl, b.roundOf = some bl ∧ ∃ N, ρ l0 = some (bl, N) := by
      cases e : b.roundOf with
      | none => rw [e] at hround; cases hround
      | some bl => rw [e] at hround; exact ⟨bl, rfl, hround⟩
    obtain ⟨ob, s2, h1, h⟩ := M.bind_inv h
    obtain ⟨h1', st0, pend0, f0, t0, nt0, ps0, a0, b0, d0, rfl⟩ := getLoop_inv h1
    obtain ⟨l, s3, h2, h⟩ := M.bind_inv h
    obtain ⟨g, h3, h⟩ := withO_inv h
    obtain ⟨y, s4, h4, h⟩ := M.bind_inv h
    obtain ⟨p, s5, h5, h⟩ := M.bind_inv h
    obtain ⟨rfl, rfl⟩ := pure_inv h
    obtain ⟨hx, hget, hh, hnx⟩ := rdN_same h1'
    have fi2 : Fine s2 := (Local.rdN _).fine hat.fine h1'
    obtain ⟨t2, rfl, rfl⟩ := newN_inv h2
    have fi3 : Fine { s2 with h := s2.h.put s2.nx (some (.loop .ready none af.fn af.tmps af.nt ps.toList assign body d0)), nx := s2.nx + 1 } := ⟨by have := fi2.mark; show s2.mark ≤ s2.nx + 1; omega, t2⟩
    have le4 := (Local.callV hl _ _).le fi3 h4
    have fi4 := (Local.callV hl _ _).fine fi3 h4
    have le5 := (Local.loopOver _).le fi4 h5
    have le4' : s2.nx + 1 ≤ s4.nx := le4
    obtain ⟨σ, w2, e1, ⟨bb, M2, e3, e4⟩, e5, e6⟩ := one_new (P := P) (fn := af.fn) (ps := ps) hat (hf _ (Nat.le_refl _) (by omega)) (by rw [← hnx]; omega) hlo h1' hl0
    rw [← hh, ← hnx] at e5
    rw [← hnx] at e1 e3
    have hfv : VR σ g (a.eval f) := (opd_sim hat.tr hat.g h3).mono e1.le
    have hfree : Free (s2.nx + 1) s4.nx σ := (show Free s2.nx s4.nx ρ by rw [hnx]; exact hf.sub (Nat.le_refl _) le5).next (by omega) e1
    have hback := callV_sim (P := P) hc (hat.g.mono e1.le) fi3 e5 hfree hfv (args := [.yield s2.nx]) (vs := #[.func (.yield bb) #[] #[]])
      (by simp only [VRs, VR]; exact ⟨_, _, rfl, ⟨_, _, e3, rfl⟩, rfl⟩) h4
    have hent := (show (Instr.enterLoop b.fn a.tmps ps assign body b.roundOf).run P w = (Instr.enterLoop af.fn a.tmps ps assign body (some bl)).run P w by rw [hfr.fn, hbr]).trans e4
    obtain ⟨v, w', ⟨τ, g1, g2, g3, g4⟩, st⟩ := rangeCall_steps (cs := cs) (k := k) hent hback
    obtain ⟨q1, q2, w5, q3, q4, q5⟩ := loopOver_sim (P := P) fi4 g3 (g1.le _ _ e3) h5
    have ext : Ext s.nx s4.nx ρ τ := by rw [← hnx]; exact e1.trans (by omega) le4' g1
    refine ⟨τ, { a with defers := [] ++ a.defers }, w5, by rw [q1]; exact ext, ⟨hat.tr.mono ext.le, q4, hat.g.mono ext.le, hat.nt, (Local.loopOver _).fine fi4 h5⟩, ?_, (e6.trans g4).trans q5, ⟨rfl, rfl, hr.symm⟩, itemsOk_andThen q2 hk, trivial, ?_⟩
    · exact hfr.defs.mono ext.le
    · rw [htodo]
      refine Steps.trans st (.one ?_)
      rw [stepR_endRangeFunc q3, andThen_eq]
      rfl
end
end Go.Rn

namespace Go.Rn
open Go.RowKit
theorem stepR_inScope {P : Program} {b : Frame} {a : Act} {k : List Item} {cs : List Frame} {w : World} {c : Code} : step P (lone (b.atR a (.inScope c :: k)) cs w) = .next (lone (b.atR a k) cs w) :=
  step_lone_go (by simp [stepG, stepG.exec, Frame.atR])
theorem stepR_scope {P : Program} {b : Frame} {a : Act} {k : List Item} {cs : List Frame} {w : World} {c : Code} : step P (lone (b.atR a (.code (.scope c) :: k)) cs w) = .next (lone (b.atR a (.code c :: .inScope c :: k)) cs w) :=
  step_lone_go (by simp [stepG, stepG.exec, Frame.atR])
section
variable {P : Program} {B : Base} {ρ : Ren} {w : World} {s s1 : AS} {call : Caller} {b : Frame} {a : Act} {cs : List Frame}
theorem begin_sim {l bl N : Nat} {pend : Option Code} {f0 nt0 d0 : Nat} {t0 : Tr AV} {ps0 : List Tmp} {a0 b0 : Code} {u : Unit} {s2 : AS} (fi : Fine s) (r : Rel B ρ s.h w) (hl : ρ l = some (bl, N))
    (hg : rdN l s = .ok (.loop .ready pend f0 t0 nt0 ps0 a0 b0 d0) s2) (h : wrN l (some (.loop .busy pend f0 t0 nt0 ps0 a0 b0 d0)) s2 = .ok u s1) :
    s1.nx = s.nx ∧ ∃ w', (Instr.beginRound bl).run P w = .ok () w' ∧ Rel B ρ s1.h w' ∧ Bel B w w' := by
  have hget := rdN_same hg
  have hok : ∀ c, pend = some c → CodeOk c := by
    obtain ⟨o', hb, hO, _⟩ := r.block (Nat.lt_of_lt_of_le hget.1 fi.nx) hget.2.1 hl
    obtain ⟨_, _, _, _, _, _, _, hlo⟩ := hO
    exact hlo.pend
  obtain ⟨e1, q, e2, e3, e4, _, _, _, _, _, _, _, e5, e6⟩ := loop_put fi r hg hl hok h
  refine ⟨e1, _, ?_, e5, e6⟩
  subst e4
  simp only [Instr.beginRound, Sem.run_bind, run_getLoopObj e2, Result.andThen_ok, run_setLoopObj e2, e3, Sem.run_pure]
theorem astep_sim (hmix : P.follows .mixedOrders = true) (hc : CallSim P B call) (hl : ∀ t a, Local (call t a)) {af : AF} {x : Stp} (hfr : Fr ρ af b a) (hat : At B ρ s af.nt af.tmps w a) (hf : Free s.nx s1.nx ρ)
    (h : astep P call af s = .ok x s1) : Went P B ρ s s1 w af b cs (lone (b.atR a af.todo) cs w) x := by
  obtain ⟨fn, t, nt, todo, d, r⟩ := af
  cases todo with
  | nil =>
    obtain ⟨rfl, rfl⟩ := pure_inv (show M.pure (.leave ⟨fn, t, nt, [], d, r⟩ none) s = .ok x s1 from h)
    exact went_calm hfr hat rfl rfl ⟨rfl, rfl, rfl⟩ .nil rfl (Steps.refl _ _)
  | cons it k =>
    have hk : ItemsOk k := hfr.ok.tail
    have hit : ItemOk it := hfr.ok.head
    have h' : (itemB P it).val call fn t nt d r k s = .ok x s1 := h
    have calm : ∀ (l : List Item), ItemsOk l → M.pure (.go ⟨fn, t, nt, l, d, r⟩) s = .ok x s1 → step P (lone (b.atR a (it :: k)) cs w) = .next (lone (b.atR a l) cs w) → Went P B ρ s s1 w ⟨fn, t, nt, it :: k, d, r⟩ b cs (lone (b.atR a (it :: k)) cs w) x := by
      intro l hl' hp hs
      obtain ⟨rfl, rfl⟩ := pure_inv hp
      exact went_calm hfr hat rfl rfl ⟨rfl, rfl, rfl⟩ hl' trivial (.one hs)
    cases it with
    | code c =>
      cases c with
      | skip => exact calm k hk h' stepR_skip
      | label l => exact calm k hk h' stepR_label
      | seq p q => exact calm (.code p :: .code q :: k) (.cons hit.1 (.cons hit.2 hk)) h' stepR_seq
      | cond c p q =>
        obtain ⟨v, h1, h2⟩ := withO_inv (show (withO (opd t c) fun v => withO (boolOf v) fun v => M.pure (.go ⟨fn, t, nt, .code (@Bool.rec (fun _ => Code) q p v) :: k, d, r⟩)) s = .ok x s1 from h')
        obtain ⟨y, h3, h4⟩ := withO_inv h2
        have hv := (opd_sim hat.tr hat.g h1).bool_inv h3
        cases y with
        | true => exact calm (.code p :: k) (.cons hit.1 hk) h4 (stepR_cond hv)
        | false => exact calm (.code q :: k) (.cons hit.2 hk) h4 (stepR_cond hv)
      | block id c => exact calm (.code c :: .inBlock id :: k) (.cons hit (.cons trivial hk)) h' stepR_block
      | loop c => exact calm (.code c :: .inLoop c :: k) (.cons hit (.cons hit hk)) h' stepR_loop
      | scope c => exact calm (.code c :: .inScope c :: k) (.cons hit (.cons hit hk)) h' stepR_scope
      | exit id =>
        have h2 : sExit id call fn t nt d r k s = .ok x s1 := h'
        unfold sExit at h2
        cases e : exitTo id k with
        | some k' => rw [e] at h2; exact calm k' (exitTo_ok e hk) h2 (stepR_exit e)
        | none =>
          rw [e] at h2
          obtain ⟨rfl, rfl⟩ := pure_inv h2
          exact went_calm hfr hat rfl rfl ⟨rfl, rfl, rfl⟩ hfr.ok ⟨k, rfl, e⟩ (Steps.refl _ _)
      | goto l =>
        have h2 : sGoto l call fn t nt d r k s = .ok x s1 := h'
        unfold sGoto at h2
        cases e : gotoIn l k with
        | some k' => rw [e] at h2; exact calm k' (gotoIn_ok e hk) h2 (stepR_goto e)
        | none =>
          rw [e] at h2
          obtain ⟨rfl, rfl⟩ := pure_inv h2
          exact went_calm hfr hat rfl rfl ⟨rfl, rfl, rfl⟩ hfr.ok ⟨k, rfl, e⟩ (Steps.refl _ _)
      | ret =>
        obtain ⟨rfl, rfl⟩ := pure_inv (show M.pure (.leave ⟨fn, t, nt, .code .ret :: k, d, r⟩ (some .ret)) s = .ok x s1 from h')
        exact went_calm hfr hat rfl rfl ⟨rfl, rfl, rfl⟩ hfr.ok ⟨k, rfl⟩ (Steps.refl _ _)
      | region id ops draw =>
        cases draw with
        | false =>
          obtain ⟨t1, s2, h1, h2⟩ := M.bind_inv (show ((aops P call nt ops ops.toList t).bind fun t => M.pure (.go ⟨fn, t, nt, k, d, r⟩)) s = .ok x s1 from h')
          obtain ⟨rfl, rfl⟩ := pure_inv h2
          exact went_goes hfr rfl hk (region_sim hc hl hat hf h1 b k cs)
        | true =>
          obtain ⟨t1, s2, h1, h2⟩ := M.bind_inv (show ((aregionD P call nt ops t).bind fun t => M.pure (.go ⟨fn, t, nt, k, d, r⟩)) s = .ok x s1 from h')
          obtain ⟨rfl, rfl⟩ := pure_inv h2
          exact went_goes hfr rfl hk (regionD_sim hmix (hit rfl) hc hl hat hf h1 b k cs)
      | rangeFunc f ps p q => exact range_sim hc hl hfr hat hf rfl h'
      | refuse why => cases h'
    | inBlock id => exact calm k hk h' stepR_inBlock
    | inScope c => exact calm k hk h' stepR_inScope
    | inLoop c => exact calm (.code c :: .inLoop c :: k) (.cons hit (.cons hit hk)) h' stepR_inLoop
    | beginRound =>
      have h2 : sBegin call fn t nt d r k s = .ok x s1 := h'
      unfold sBegin at h2
      cases r with
      | none => cases h2
      | some l =>
        obtain ⟨bl, hbr, N0, hl0⟩ : ∃ bl, b.roundOf = some bl ∧ ∃ N, ρ l = some (bl, N) := by
          have hround := hfr.round
          cases e : b.roundOf with
          | none => rw [e] at hround; cases hround
          | some bl => rw [e] at hround; exact ⟨bl, rfl, hround⟩
        obtain ⟨o, s2, h3, h4⟩ := M.bind_inv h2
        obtain ⟨h5, st, pend, f0, t0, nt0, ps0, a0, b0, d0, rfl⟩ := getLoop_inv h3
        cases st <;> first | (cases h4; done) | skip
        obtain ⟨u, s3, h6, h7⟩ := M.bind_inv h4
        obtain ⟨rfl, rfl⟩ := pure_inv h7
        obtain ⟨e1, w', e2, e3, e4⟩ := begin_sim (P := P) hat.fine hat.rel hl0 h5 h6
        have fi2 : Fine s1 := (Local.wrN _ _).fine ((Local.rdN _).fine hat.fine h5) h6
        exact ⟨ρ, a, w', by rw [e1]; exact Ext.refl _ _ _, ⟨hat.tr, e3, hat.g, hat.nt, fi2⟩, hfr.defs, e4, ⟨rfl, rfl, rfl⟩, hk, trivial, .one (stepR_beginRound hbr e2)⟩
    | _ => cases h'
theorem Went.then_ {af : AF} {fr : AF} {x : Stp} {s2 : AS} {m : Machine} (hfr : Fr ρ af b a) (h : Went P B ρ s s2 w af b cs m (.go fr)) (le1 : s.nx ≤ s2.nx) (le2 : s2.nx ≤ s1.nx)
    (k : ∀ (σ : Ren) (a' : Act) (w' : World), Ext s.nx s2.nx ρ σ → Fr σ fr b a' → At B σ s2 fr.nt fr.tmps w' a' → Went P B σ s2 s1 w' fr b cs (lone (b.atR a' fr.todo) cs w') x) : Went P B ρ s s1 w af b cs m x := by
  obtain ⟨σ, a', w', e1, e2, e3, e4, ⟨e5, e6, e7⟩, e8, _, e9⟩ := h
  have e6' : fr.nt = af.nt := e6
  obtain ⟨τ, a'', w'', f1, f2, f3, f4, ⟨f5, f6, f7⟩, f8, f9, f10⟩ := k σ a' w' e1 ⟨hfr.fn.trans e5.symm, hfr.kind, by have := hfr.round.mono e1.le; rw [← e7] at this; exact this, e3, e8⟩ (by rw [e6']; exact e2)
  exact ⟨τ, a'', w'', e1.trans le1 le2 f1, by rw [e6'] at f2; exact f2, f3, e4.trans f4, ⟨f5.trans e5, f6.trans e6, f7.trans e7⟩, f8, f9, Steps.trans e9 f10⟩
theorem aloop_sim (hmix : P.follows .mixedOrders = true) (hc : CallSim P B call) (hl : ∀ t a, Local (call t a)) : ∀ (n : Nat) {ρ : Ren} {w : World} {s s1 : AS} {a : Act} {af : AF} {x : Stp}, Fr ρ af b a → At B ρ s af.nt af.tmps w a → Free s.nx s1.nx ρ →
    aloop P call n af s = .ok x s1 → Went P B ρ s s1 w af b cs (lone (b.atR a af.todo) cs w) x
  | 0, ρ, w, s, s1, a, af, x, hfr, hat, hf, h => astep_sim hmix hc hl hfr hat hf h
  | n + 1, ρ, w, s, s1, a, af, x, hfr, hat, hf, h => by
    obtain ⟨y, s2, h1, h2⟩ := M.bind_inv (show ((aloop P call n af).bind fun x => @Stp.rec (fun _ => M Stp) (aloop P call n) (fun fr j => M.pure (.leave fr j)) x) s = .ok x s1 from h)
    have le1 := (Local.aloop P hl n af).le hat.fine h1
    have fi2 := (Local.aloop P hl n af).fine hat.fine h1
    cases y with
    | go fr =>
      have h2' : aloop P call n fr s2 = .ok x s1 := h2
      have le2 := (Local.aloop P hl n fr).le fi2 h2'
      have w1 := aloop_sim hmix hc hl n hfr hat (hf.sub (Nat.le_refl _) le2) h1
      exact w1.then_ hfr le1 le2 fun σ a' w' e1 hfr' hat' => aloop_sim hmix hc hl n hfr' hat' (hf.next le1 e1) h2'
    | leave fr j =>
      obtain ⟨rfl, rfl⟩ := pure_inv (show M.pure (.leave fr j) s2 = .ok x s1 from h2)
      exact aloop_sim hmix hc hl n hfr hat hf h1
theorem agrow_sim (hmix : P.follows .mixedOrders = true) (hc : CallSim P B call) (hl : ∀ t a, Local (call t a)) : ∀ (n k : Nat) {ρ : Ren} {w : World} {s s1 : AS} {a : Act} {af : AF} {x : Stp}, Fr ρ af b a → At B ρ s af.nt af.tmps w a → Free s.nx s1.nx ρ →
    agrow P call n k af s = .ok x s1 → Went P B ρ s s1 w af b cs (lone (b.atR a af.todo) cs w) x
  | 0, k, ρ, w, s, s1, a, af, x, hfr, hat, hf, h => by cases h
  | n + 1, k, ρ, w, s, s1, a, af, x, hfr, hat, hf, h => by
    obtain ⟨y, s2, h1, h2⟩ := M.bind_inv (show ((aloop P call k af).bind fun x => @Stp.rec (fun _ => M Stp) (fun fr => agrow P call n (Nat.succ k) fr) (fun fr j => M.pure (.leave fr j)) x) s = .ok x s1 from h)
    have le1 := (Local.aloop P hl k af).le hat.fine h1
    have fi2 := (Local.aloop P hl k af).fine hat.fine h1
    cases y with
    | go fr =>
      have h2' : agrow P call n (k + 1) fr s2 = .ok x s1 := h2
      have le2 := (Local.agrow P hl n (k + 1) fr).le fi2 h2'
      have w1 := aloop_sim (b := b) (cs := cs) hmix hc hl k hfr hat (hf.sub (Nat.le_refl _) le2) h1
      exact w1.then_ hfr le1 le2 fun σ a' w' e1 hfr' hat' => agrow_sim hmix hc hl n (k + 1) hfr' hat' (hf.next le1 e1) h2'
    | leave fr j =>
      obtain ⟨rfl, rfl⟩ := pure_inv (show M.pure (.leave fr j) s2 = .ok x s1 from h2)
      exact aloop_sim hmix hc hl k hfr hat hf h1
end
end Go.Rn

namespace Go.Rn
open Go.RowKit
section
variable {P : Program} {B : Base} {ρ : Ren} {w : World} {s s1 : AS} {call : Caller}
theorem setParams_sim {nt : Nat} (hnt : nt ≤ top) : ∀ {ps : List Tmp} {args : List AV} {vs : List Value} {t : Tr AV} {arr : Array Value}, TR ρ nt t arr → VRs ρ args vs → (∀ p ∈ ps, p < nt) →
    TR ρ nt (setParams ps args t) ((ps.zip vs).foldl (fun tmps (t, a) => tmps.setIfInBounds t a) arr)
  | [], args, vs, t, arr, h, _, _ => by simpa [setParams] using h
  | p :: ps, [], vs, t, arr, h, hv, _ => by
    simp only [VRs] at hv; subst hv
    simpa [setParams] using h
  | p :: ps, v :: args, vs, t, arr, h, hv, hp => by
    simp only [VRs] at hv
    obtain ⟨u, us, rfl, h1, h2⟩ := hv
    simp only [setParams, List.zip_cons_cons, List.foldl_cons]
    exact setParams_sim hnt (h.set (hp p List.mem_cons_self) hnt h1) h2 fun q hq => hp q (List.mem_cons_of_mem _ hq)
theorem endRound_sim {l bl N : Nat} {j : Option Code} {x : AV} (fi : Fine s) (r : Rel B ρ s.h w) (hl : ρ l = some (bl, N)) (hj : ∀ c, j = some c → CodeOk c) (h : endRound l j s = .ok x s1) :
    s1.nx = s.nx ∧ x = .bool j.isNone ∧ ∃ w', (Instr.endRound bl j).run P w = .ok (.bool j.isNone) w' ∧ Rel B ρ s1.h w' ∧ Bel B w w' := by
  unfold endRound at h
  obtain ⟨o, s2, h1, h2⟩ := M.bind_inv h
  obtain ⟨h3, st, pend, fn, t, nt, ps, aa, bb, d, rfl⟩ := getLoop_inv h1
  obtain ⟨u, s3, h4, h5⟩ := M.bind_inv h2
  obtain ⟨rfl, rfl⟩ := pure_inv h5
  obtain ⟨e1, q, e2, e3, e4, _, _, _, _, _, _, _, e5, e6⟩ := loop_put fi r h3 hl hj h4
  refine ⟨e1, rfl, _, ?_, e5, e6⟩
  cases j <;> simp only [Instr.endRound, Sem.run_bind, run_getLoopObj e2, Result.andThen_ok, run_setLoopObj e2, Sem.run_pure] <;> rfl
theorem round_sim (hmix : P.follows .mixedOrders = true) (hc : CallSim P B call) (hl : ∀ t a, Local (call t a)) {l bl N : Nat} {args : List AV} {vs : Array Value} {x : AV} (fi : Fine s) (r : Rel B ρ s.h w) (hg : RenG ρ) (hf : Free s.nx s1.nx ρ)
    (h : runRound P call l args s = .ok x s1) (hv : VRs ρ args vs.toList) (hlb : ρ l = some (bl, N)) : Back P ((Instr.yield bl vs).run P w) (Came B ρ s s1 w x) := by
  unfold runRound at h
  obtain ⟨o, s2, h1, h2⟩ := M.bind_inv h
  obtain ⟨h3, st, pend, fn, t, nt, ps, aa, bb, d, rfl⟩ := getLoop_inv h1
  obtain ⟨h4, h5⟩ := withB_inv h2
  obtain ⟨y, s3, h6, h7⟩ := M.bind_inv h5
  obtain ⟨q1, q2⟩ := and_true.1 h4
  have hlen := beqN_true.1 q1
  have hps : ∀ p ∈ ps, p < nt := fun p hp => by have := List.all_eq_true.1 q2 p hp; rw [← blt_eq]; exact this
  obtain ⟨hx, hget, hh, hnx⟩ := rdN_same h3
  have fi2 : Fine s2 := (Local.rdN _).fine fi h3
  have hlt : l < top := Nat.lt_of_lt_of_le hx fi.nx
  obtain ⟨o', hb, hO, hB⟩ := r.block hlt hget hlb
  obtain ⟨ta, db, M, rfl, htr, hnt, hd, hlo⟩ := hO
  have hyield : (Instr.yield bl vs).run P w = .ok (.round bl fn ((ps.zip vs.toList).foldl (fun tmps (t, a) => tmps.setIfInBounds t a) ta) aa bb) w := by
    have hsz : ¬ (vs.size ≠ ps.toArray.size) := by
      have := hv.length
      simp at this ⊢; omega
    simp only [Instr.yield, Sem.run_bind, run_getLoopObj hb, Result.andThen_ok, if_neg hsz, Sem.run_pure]
    rw [← Array.foldl_toList]
    simp
  rw [hyield]
  intro c cs
  cases y with
  | go fr => cases h7
  | leave fr j =>
    have h7' : endRound l j s3 = .ok x s1 := h7
    let b : Frame := { (default : Frame) with fn := fn, kind := .normal, roundOf := some bl }
    let a : Act := { tmps := (ps.zip vs.toList).foldl (fun tmps (t, a) => tmps.setIfInBounds t a) ta, defers := [] }
    have le2 := (Local.agrow P hl depth 2 ⟨fn, setParams ps args t, nt, [.code aa, .beginRound, .code bb], [], some l⟩).le fi2 h6
    have fi3 := (Local.agrow P hl depth 2 ⟨fn, setParams ps args t, nt, [.code aa, .beginRound, .code bb], [], some l⟩).fine fi2 h6
    have le3 := (Local.endRound l j).le fi3 h7'
    have hfr : Fr ρ ⟨fn, setParams ps args t, nt, [.code aa, .beginRound, .code bb], [], some l⟩ b a := ⟨rfl, rfl, ⟨N, hlb⟩, rfl, .cons hlo.assign (.cons trivial (.cons hlo.body .nil))⟩
    have hat : At B ρ s2 nt (setParams ps args t) w a := ⟨setParams_sim hnt htr hv hps, by rw [hh]; exact r, hg, hnt, fi2⟩
    obtain ⟨σ, a', w', e1, e2, e3, e4, _, _, e6, e7⟩ := agrow_sim (cs := c :: cs) hmix hc hl depth 2 hfr hat (by rw [hnx]; exact hf.sub (Nat.le_refl _) le3) h6
    have e6' : Leaves j fr.todo := e6
    obtain ⟨f1, rfl, w'', f2, f3, f4⟩ := endRound_sim (P := P) fi3 e2.rel (e1.le _ _ hlb) e6'.code h7'
    refine ⟨.bool j.isNone, w'', ⟨σ, by rw [f1, ← hnx]; exact e1, by simp only [VR], f3, e4.trans f4⟩, ?_⟩
    have hstart : Frame.round bl fn ((ps.zip vs.toList).foldl (fun tmps (t, a) => tmps.setIfInBounds t a) ta) aa bb .normal = b.atR a [.code aa, .beginRound, .code bb] := rfl
    rw [hstart]
    refine Steps.trans e7 (.one ?_)
    show step P (lone (b.atR a' fr.todo) (c :: cs) w') = _
    unfold Leaves at e6'
    split at e6'
    · rw [e6']; exact stepR_round_end rfl rfl f2
    · obtain ⟨k, e⟩ := e6'; rw [e]; exact stepR_round_ret rfl rfl f2
    · obtain ⟨k, e, e'⟩ := e6'; rw [e]; exact stepR_round_exit rfl rfl e' f2
    · obtain ⟨k, e, e'⟩ := e6'; rw [e]; exact stepR_round_goto rfl rfl e' f2
    · cases e6'
theorem resultOf_sim {nt : Nat} {t : Tr AV} {tmps : Array Value} {rv : ResultVar} {x : AV} (ht : TR ρ nt t tmps) (fi : Fine s) (r : Rel B ρ s.h w) (h : resultOf P t rv s = .ok x s1) :
    s1.h = s.h ∧ s1.nx = s.nx ∧ Fine s1 ∧ ∃ v, (match rv with | .tmp t => pure (tmps.getD t undef) | .cell a t => do Go.loadVar t (← asAddr (tmps.getD a undef)) : Sem Value).run P w = .ok v w ∧ VR ρ x v := by
  cases rv with
  | tmp i =>
    obtain ⟨hx, rfl⟩ := lift_inv (show lift (t.get i) s = .ok x s1 from h)
    exact ⟨rfl, rfl, fi, _, rfl, ht.2 i x hx⟩
  | cell a ty =>
    obtain ⟨ad, s2, h1, h2⟩ := M.bind_inv (show ((lift (match t.get a with | some x => addrOf x | none => none)).bind fun a => Rn.loadVar P ty a.1 a.2) s = .ok x s1 from h)
    obtain ⟨h3, hs⟩ := lift_inv h1
    subst hs
    cases hta : t.get a with
    | none => rw [hta] at h3; cases h3
    | some xa =>
    rw [hta] at h3
    obtain ⟨b, N, h4, h5⟩ := (ht.2 a xa hta).addr_inv h3
    obtain ⟨a1, a2, v, a3, a4⟩ := loadVar_sim (P := P) fi r h2 h4
    exact ⟨a1, a2, (Local.loadVar P ty _ _).fine fi h2, v, by simp [h5, asAddr, a3], a4⟩
theorem resultsOf_sim {nt : Nat} {t : Tr AV} {tmps : Array Value} (ht : TR ρ nt t tmps) : ∀ {l : List ResultVar} {vs : List AV} {s s1 : AS}, Fine s → Rel B ρ s.h w → resultsOf P t l s = .ok vs s1 →
    s1.h = s.h ∧ s1.nx = s.nx ∧ ∃ us, (l.mapM fun | .tmp t => pure (tmps.getD t undef) | .cell a t => do Go.loadVar t (← asAddr (tmps.getD a undef)) : Sem (List Value)).run P w = .ok us w ∧ VRs ρ vs us
  | [], vs, s, s1, fi, r, h => by
    obtain ⟨rfl, rfl⟩ := pure_inv (show M.pure [] s = .ok vs s1 from h)
    exact ⟨rfl, rfl, [], rfl, by simp [VRs]⟩
  | rv :: l, vs, s, s1, fi, r, h => by
    obtain ⟨v, s2, h1, h2⟩ := M.bind_inv (show ((resultOf P t rv).bind fun v => (resultsOf P t l).bind fun vs => M.pure (v :: vs)) s = .ok vs s1 from h)
    obtain ⟨us, s3, h3, h4⟩ := M.bind_inv h2
    obtain ⟨rfl, rfl⟩ := pure_inv h4
    obtain ⟨a1, a2, a3, u, a4, a5⟩ := resultOf_sim ht fi r h1
    obtain ⟨b1, b2, us', b3, b4⟩ := resultsOf_sim ht a3 (by rw [a1]; exact r) h3
    refine ⟨b1.trans a1, b2.trans a2, u :: us', ?_, ?_⟩
    · rw [List.mapM_cons]
      simp only [Sem.run_bind, a4, Result.andThen_ok, b3, Sem.run_pure]
    · simp only [VRs]; exact ⟨u, us', rfl, a5, b4⟩
theorem dropDefs_sim {fr : Frame} {cs : List Frame} : ∀ {l : List Nat} {ds : List Deferred} {s s1 : AS} {w : World} {u : Unit}, Fine s → Rel B ρ s.h w → DefR ρ l ds → dropDefs l s = .ok u s1 →
    s1.nx = s.nx ∧ Fine s1 ∧ ∃ w', Rel B ρ s1.h w' ∧ Bel B w w' ∧ ∀ (fr : Frame) (cs : List Frame), fr.mode ≠ .run → fr.defers = ds → Steps P (lone fr cs w) (lone { fr with defers := [] } cs w')
  | [], ds, s, s1, w, u, fi, r, hd, h => by
    obtain ⟨_, rfl⟩ := pure_inv (show M.pure () s = .ok u s1 from h)
    have hd' : ds = [] := hd
    subst hd'
    exact ⟨rfl, fi, w, r, Bel.refl _ _, fun fr cs _ e => by rw [← e]; exact Steps.refl _ _⟩
  | d :: l, ds, s, s1, w, u, fi, r, hd, h => by
    obtain ⟨b, N, ds', rfl, hn, hds⟩ := hd
    obtain ⟨o, s2, h1, h2⟩ := M.bind_inv (show ((rdN d).bind fun o => match o with | .defs => (wrN d none).bind fun _ => dropDefs l | _ => fail) s = .ok u s1 from h)
    obtain ⟨hx, hget, hh, hnx⟩ := rdN_same h1
    have fi2 := (Local.rdN d).fine fi h1
    have hlt : d < top := Nat.lt_of_lt_of_le hx fi.nx
    obtain ⟨o', hb, hO, hB⟩ := r.block hlt hget hn
    cases o with
    | defs =>
      obtain ⟨u2, s3, h3, h4⟩ := M.bind_inv h2
      have fi3 := (Local.wrN d none).fine fi2 h3
      obtain ⟨_, _, _, i1, i2⟩ := wrN_same h3
      have hO' : o' = .deferred (some []) := hO
      subst hO'
      obtain ⟨g3, g4⟩ := setObj_only (o' := .deferred none) hb
      obtain ⟨k1, _⟩ := r.dropAt hlt hget rfl rfl hn g3
      obtain ⟨e1, e2, w', e3, e4, e5⟩ := dropDefs_sim (fr := fr) (cs := cs) fi3 (by rw [i1, hh]; exact k1) hds h4
      refine ⟨by rw [e1, i2, hnx], e2, w', e3, (g3.below (hB rfl)).trans e4, fun fr cs hm hdf => ?_⟩
      have htake : (Instr.takeDeferred b).run P w = .ok [] { w with heap := w.heap.setIfInBounds b (.deferred none) } := by
        simp [Instr.takeDeferred, getObj, setObj, Sem.run, hb]
      have hs := step_collected (P := P) (cs := cs) hm hdf rfl htake
      exact .head hs (e5 { fr with defers := [] ++ ds' } cs hm rfl)
    | _ => cases h2
end
end Go.Rn

namespace Go.Rn
open Go.RowKit
section
variable {P : Program} {B : Base} {ρ : Ren} {w : World} {s s1 : AS} {call : Caller}
theorem fillArgs_sim {args : List AV} {vs : Array Value} (hv : VRs ρ args vs.toList) (n : Nat) (hn : max n args.length ≤ top) : TR ρ (max n args.length) (fillArgs args) (vs ++ Array.replicate (n - vs.size) undef) := by
  have hlen := hv.length
  simp only [Array.length_toList] at hlen
  refine ⟨by simp; omega, fun i x hx => ?_⟩
  unfold fillArgs at hx
  rw [Tr.get_fill' _ _ _ _ (by omega)] at hx
  by_cases h : i < args.length
  · rw [if_pos (by omega), Nat.sub_zero] at hx
    obtain ⟨v, h1, h2⟩ := hv.get i x hx
    rw [Array.getD_eq_getD_getElem?, Array.getElem?_append_left (by omega)]
    rw [Array.getElem?_toList] at h1
    rw [h1]; exact h2
  · rw [if_neg (by omega), Tr.get_nil] at hx; cases hx
def oneOrA : List AV → AV
  | [v] => v
  | l => .tuple l
def oneOrV : List Value → Value
  | [v] => v
  | l => .tuple l.toArray
theorem oneOr_sim : ∀ {rs : List AV} {us : List Value}, VRs ρ rs us → VR ρ (oneOrA rs) (oneOrV us)
  | [], us, h => by simp only [VRs] at h; subst h; simp only [oneOrA, oneOrV, VR, VRs]; exact ⟨_, rfl, rfl⟩
  | [v], us, h => by simp only [VRs] at h; obtain ⟨u, us', rfl, g1, rfl⟩ := h; exact g1
  | v :: v2 :: rs, us, h => by
    simp only [VRs] at h
    obtain ⟨u, us', rfl, g1, u2, us2, rfl, g3, g4⟩ := h
    simp only [oneOrA, oneOrV, VR, VRs]; exact ⟨_, rfl, u, _, rfl, g1, u2, us2, rfl, g3, g4⟩
theorem finish_inv {rs : List ResultVar} {fr : AF} {j : Option Code} {x : AV} (h : finish P rs fr j s = .ok x s1) :
    (j = none ∨ j = some .ret) ∧ ∃ u s4 vs, dropDefs fr.defers s = .ok u s4 ∧ resultsOf P fr.tmps rs s4 = .ok vs s1 ∧ x = oneOrA vs := by
  unfold finish at h
  obtain ⟨u, s3, h5, h6⟩ := M.bind_inv h
  have hs3 : s3 = s ∧ (j = none ∨ j = some .ret) := by
    cases j with
    | none => exact ⟨(pure_inv (show M.pure () s = .ok u s3 from h5)).2, .inl rfl⟩
    | some c => cases c <;> first | exact ⟨(pure_inv (show M.pure () s = .ok u s3 from h5)).2, .inr rfl⟩ | cases h5
  obtain ⟨hs, hj⟩ := hs3
  clear h5 h
  subst hs
  obtain ⟨u2, s4, h7, h8⟩ := M.bind_inv h6
  obtain ⟨vs, s5, h9, h10⟩ := M.bind_inv h8
  refine ⟨hj, u2, s4, vs, h7, ?_⟩
  cases vs with
  | nil => obtain ⟨rfl, rfl⟩ := pure_inv (show M.pure (.tuple []) s5 = .ok x s1 from h10); exact ⟨h9, rfl⟩
  | cons v rs =>
    cases rs with
    | nil => obtain ⟨rfl, rfl⟩ := pure_inv (show M.pure v s5 = .ok x s1 from h10); exact ⟨h9, rfl⟩
    | cons v2 rs => obtain ⟨rfl, rfl⟩ := pure_inv (show M.pure (.tuple (v :: v2 :: rs)) s5 = .ok x s1 from h10); exact ⟨h9, rfl⟩
theorem body_sim (hmix : P.follows .mixedOrders = true) (hc : CallSim P B call) (hl : ∀ t a, Local (call t a)) {f : FuncId} {fn : Func} {body : Code} {args : List AV} {vs : Array Value} {x : AV} (hfn : P.funcs[f]? = some fn) (hbody : fn.body = some body) (hname : (fn.name == "runtime.NumGoroutine") = false) (hok : CodeOk body)
    (fi : Fine s) (r : Rel B ρ s.h w) (hg : RenG ρ) (hf : Free s.nx s1.nx ρ) (h : kBody P f fn.ntmps fn.results.toList body call args s = .ok x s1) (hv : VRs ρ args vs.toList) : Back P ((callFunc f vs).run P w) (Came B ρ s s1 w x) := by
  have hcall : (callFunc f vs).run P w = .ok (.enter f vs) w := by
    have hprog : (program).run P w = .ok P w := rfl
    have hn : fn.name ≠ "runtime.NumGoroutine" := by simpa using hname
    simp only [callFunc, Sem.run_bind, hprog, Result.andThen_ok, hfn, hname, hbody]
    simp
  rw [hcall]
  intro cs
  unfold kBody at h
  obtain ⟨h1, h2⟩ := withB_inv h
  have hmax := ble_true.1 h1
  obtain ⟨y, s2, h3, h4⟩ := M.bind_inv h2
  cases y with
  | go fr => cases h4
  | leave fr j =>
    have h4' : finish P fn.results.toList fr j s2 = .ok x s1 := h4
    let b : Frame := { (default : Frame) with fn := f, kind := .normal, roundOf := none }
    let a : Act := { tmps := vs ++ Array.replicate (fn.ntmps - vs.size) undef, defers := [] }
    have hstart : Frame.enter P f vs .normal = b.atR a [.code body] := by simp [Frame.enter, Frame.atR, hfn, hbody, b, a]
    have hfr : Fr ρ ⟨f, fillArgs args, max fn.ntmps args.length, [.code body], [], none⟩ b a := ⟨rfl, rfl, trivial, rfl, .cons hok .nil⟩
    have hat : At B ρ s (max fn.ntmps args.length) (fillArgs args) w a := ⟨fillArgs_sim hv _ hmax, r, hg, hmax, fi⟩
    have le1 := (Local.agrow P hl depth 2 ⟨f, fillArgs args, max fn.ntmps args.length, [.code body], [], none⟩).le fi h3
    have fi2 := (Local.agrow P hl depth 2 ⟨f, fillArgs args, max fn.ntmps args.length, [.code body], [], none⟩).fine fi h3
    obtain ⟨hj, u2, s4, rs, h7, h9, hx⟩ := finish_inv h4'
    have hnxD : ∀ {l : List Nat} {s s1 : AS} {u : Unit}, dropDefs l s = .ok u s1 → s1.nx = s.nx := by
      intro l
      induction l with
      | nil => intro s s1 u h; exact congrArg AS.nx (pure_inv (show M.pure () s = .ok u s1 from h)).2
      | cons d l ih =>
        intro s s1 u h
        obtain ⟨o, s2, q1, q2⟩ := M.bind_inv (show ((rdN d).bind fun o => match o with | .defs => (wrN d none).bind fun _ => dropDefs l | _ => fail) s = .ok u s1 from h)
        cases o with
        | defs =>
          obtain ⟨u2, s3, q3, q4⟩ := M.bind_inv q2
          rw [ih q4, (wrN_same q3).2.2.2.2, (rdN_same q1).2.2.2]
        | _ => cases q2
    have hnxR : ∀ {l : List ResultVar} {t : Tr AV} {vs : List AV} {s s1 : AS}, Fine s → resultsOf P t l s = .ok vs s1 → s.nx ≤ s1.nx := by
      intro l t vs s s1 fi h
      exact (Local.resultsOf P t l).le fi h
    have n4 := hnxD h7
    have fi4 : Fine s4 := (Local.dropDefs _).fine fi2 h7
    have n5 := hnxR fi4 h9
    obtain ⟨σ, a', w', e1, e2, e3, e4, ⟨e5, e5', e5''⟩, e6, e7, e8⟩ := agrow_sim (b := b) (cs := cs) hmix hc hl depth 2 hfr hat (hf.sub (Nat.le_refl _) (by omega)) h3
    have e7' : Leaves j fr.todo := e7
    obtain ⟨d1, d2, w2, d3, d4, d5⟩ := dropDefs_sim (P := P) (fr := b) (cs := cs) fi2 e2.rel e3 h7
    obtain ⟨f1, f2, us, f3, f4⟩ := resultsOf_sim (P := P) (w := w2) e2.tr fi4 d3 h9
    have hout : Steps P (lone (b.atR a' fr.todo) cs w') (lone { b.atR a' fr.todo with mode := .returning } cs w') := by
      rcases hj with rfl | rfl
      · have e : fr.todo = [] := e7'
        rw [e]; exact .one (stepR_end rfl)
      · obtain ⟨k, e⟩ := e7'
        rw [e]; exact .one (stepR_ret rfl)
    have hdrop := d5 { b.atR a' fr.todo with mode := .returning } cs (by simp) rfl
    have hres : (results fn a'.tmps).run P w2 = .ok (oneOrV us) w2 := by
      unfold results
      rw [Array.mapM_eq_mapM_toList]
      simp only [Sem.run_bind, map_eq_pure_bind, Sem.run_pure]
      refine Eq.trans (congrArg (fun r : Result (List Value) => (r.andThen fun a w' => Result.ok a.toArray w').andThen fun a w' => Result.ok (if h : a.size = 1 then a[0] else Value.tuple a) w') f3) ?_
      have : ∀ l : List Value, (Result.ok (if h : l.toArray.size = 1 then l.toArray[0] else Value.tuple l.toArray) w2 : Result Value) = .ok (oneOrV l) w2 := by
        intro l
        match l with
        | [] => rfl
        | [v] => rfl
        | v :: v2 :: l => simp [oneOrV]
      exact this us
    refine ⟨.returned (oneOrV us), w2, { b.atR a' fr.todo with mode := .returning, defers := [] }, ⟨_, rfl, ?_⟩, ?_, rfl, ?_⟩
    · exact ⟨σ, by rw [show s1.nx = s2.nx by rw [f2, d1]]; exact e1, by rw [hx]; exact oneOr_sim f4, by rw [f1]; exact d3, e4.trans d4⟩
    · rw [hstart]
      exact Steps.trans e8 (Steps.trans hout hdrop)
    · exact ⟨rfl, rfl, rfl, fn, hfn, hres⟩
structure ProgOk (P : Program) : Prop where
  mixed : P.follows .mixedOrders = true
  code : ∀ (f : FuncId) (fn : Func) (body : Code), P.funcs[f]? = some fn → fn.body = some body → CodeOk body
def WaysOk (P : Program) (B : Base) (way : FuncId → Nat) : Prop :=
  ∀ (n : Nat) (f : FuncId), (way f = 1 ∨ way f = 2 ∨ way f = 3) → CallSim P B (arun P way n) → ∀ (args : List AV) (x : AV) (s s1 : AS) (ρ : Ren) (w : World) (vs : Array Value), Fine s → Rel B ρ s.h w → RenG ρ → Free s.nx s1.nx ρ →
    (fnB P way f).val (arun P way n) args s = .ok x s1 → VRs ρ args vs.toList → Back P ((callFunc f vs).run P w) (Came B ρ s s1 w x)
theorem arun_sim (hP : ProgOk P) {way : FuncId → Nat} (hw : WaysOk P B way) : ∀ (n : Nat), CallSim P B (arun P way n)
  | 0 => ⟨(fun f args x s s1 ρ w vs _ _ _ _ h _ => by cases h), (fun l b N args x s s1 ρ w vs _ _ _ _ h _ _ => by cases h), (fun n o k x s s1 ρ w _ _ h => by cases h)⟩
  | n + 1 => by
    have ih := arun_sim hP hw n
    refine ⟨fun f args x s s1 ρ w vs fi r hg hf h hv => ?_, fun l b N args x s s1 ρ w vs fi r hg hf h hv hl => round_sim hP.mixed ih (local_arun P way n) fi r hg hf h hv hl, fun n o k x s s1 ρ w _ _ h => by cases h⟩
    have h' : (fnB P way f).val (arun P way n) args s = .ok x s1 := h
    by_cases q : way f = 1 ∨ way f = 2 ∨ way f = 3
    · exact hw n f q ih args x s s1 ρ w vs fi r hg hf h' hv
    · unfold fnB at h'
      split at h'
      · rename_i e; exact absurd (.inr (.inl e)) q
      · rename_i e; exact absurd (.inr (.inr e)) q
      · cases e1 : P.funcs[f]? with
        | none => rw [e1] at h'; cases h'
        | some fn =>
          rw [e1] at h'
          cases e2 : fn.body with
          | none => simp only [e2] at h'; cases h'
          | some body =>
            simp only [e2] at h'
            cases e3 : (fn.name == "runtime.NumGoroutine") with
            | true => simp only [e3] at h'; cases h'
            | false =>
              simp only [e3] at h'
              cases e4 : Nat.beq (way f) 1 with
              | true => exact absurd (.inl (beqN_true.1 e4)) q
              | false =>
                simp only [e4] at h'
                exact body_sim hP.mixed ih (local_arun P way n) e1 e2 e3 (hP.code f fn body e1 e2) fi r hg hf h' hv
end
end Go.Rn
