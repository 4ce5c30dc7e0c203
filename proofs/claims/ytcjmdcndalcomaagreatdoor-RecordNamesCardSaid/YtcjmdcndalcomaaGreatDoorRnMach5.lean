/- Each step of a frame. -/
import Derived.Test.YtcjmdcndalcomaaGreatDoorRnMach4
namespace Go.Rn
open Go.RowKit

section
variable {P : Program} {B : Nat} {ρ : Ren} {w : World} {s s1 : AS} {call : Caller} {b : Frame} {a : Act} {cs : List Frame}

theorem went_calm {af : AF} {x : Stp} (hfr : Fr ρ af b a) (hat : At B ρ s af.nt af.tmps w a) (h1 : x.fr.tmps = af.tmps) (h2 : x.fr.defers = af.defers) (h3 : x.fr.fn = af.fn ∧ x.fr.nt = af.nt ∧ x.fr.round = af.round) (h4 : ItemsOk x.fr.todo) (h5 : x.ok)
    (h6 : Steps P (lone (b.atR a af.todo) cs w) (lone (b.atR a x.fr.todo) cs w)) : Went P B ρ s s w af b cs (lone (b.atR a af.todo) cs w) x :=
  ⟨ρ, a, w, Ext.refl _ _ _, by rw [h1]; exact hat, by rw [h2]; exact hfr.defs, Below.refl _ _, h3, h4, h5, h6⟩

theorem went_goes {af fr : AF} (hfr : Fr ρ af b a) {k : List Item} {t : Tr AV} (hx : fr = { af with tmps := t, todo := k }) (hk : ItemsOk k)
    (h : Goes P B ρ s s1 af.nt t w a (lone (b.atR a af.todo) cs w) (fun a' w' => lone (b.atR a' k) cs w')) : Went P B ρ s s1 w af b cs (lone (b.atR a af.todo) cs w) (.go fr) := by
  subst hx
  obtain ⟨σ, a', w', e1, e2, e3, e4, e5⟩ := h
  exact ⟨σ, a', w', e1, e2, by rw [e3]; exact hfr.defs.mono e1.le, e4, ⟨rfl, rfl, rfl⟩, hk, trivial, e5⟩

theorem two_new {fn nt : Nat} {t : Tr AV} {ps : Array Tmp} {assign body : Code} (hat : At B ρ s nt t w a) (h1 : ρ s.nx = none) (h2 : ρ (s.nx + 1) = none) (l1 : s.nx < top) (l2 : s.nx + 1 < top) (hlo : LoopOk none assign body) :
    ∃ σ, Ext s.nx (s.nx + 2) ρ σ ∧ σ s.nx = some (w.heap.size, 0) ∧ σ (s.nx + 1) = some (w.heap.size + 1, 0) ∧
      (Instr.enterLoop fn a.tmps ps assign body none).run P w = .ok (w.heap.size + 1, [{ target := .collected w.heap.size, args := #[] }])
        { w with heap := (w.heap.push (.deferred (some []))).push (.loop { state := .ready, pending := none, fn, tmps := a.tmps, params := ps, assign, body, defers := w.heap.size }) } ∧
      Rel B σ ((s.h.put s.nx (some .defs)).put (s.nx + 1) (some (.loop .ready none fn t nt ps.toList assign body s.nx)))
        { w with heap := (w.heap.push (.deferred (some []))).push (.loop { state := .ready, pending := none, fn, tmps := a.tmps, params := ps, assign, body, defers := w.heap.size }) } ∧
      Below B w { w with heap := (w.heap.push (.deferred (some []))).push (.loop { state := .ready, pending := none, fn, tmps := a.tmps, params := ps, assign, body, defers := w.heap.size }) } := by
  have r1 := hat.rel.new (n := s.nx) (o := .defs) (o' := .deferred (some [])) (N := 0) l1 h1 rfl rfl
  have hn2 : updR ρ s.nx (w.heap.size, 0) (s.nx + 1) = none := by rw [updR_ne ρ _ (by omega)]; exact h2
  have hle1 : ρ.le (updR ρ s.nx (w.heap.size, 0)) := updR_le h1
  have hle2 : (updR ρ s.nx (w.heap.size, 0)).le (updR (updR ρ s.nx (w.heap.size, 0)) (s.nx + 1) (w.heap.size + 1, 0)) := updR_le hn2
  have hsz : ({ w with heap := w.heap.push (.deferred (some [])) } : World).heap.size = w.heap.size + 1 := by simp
  have r2 := r1.new (n := s.nx + 1) (o := .loop .ready none fn t nt ps.toList assign body s.nx) (o' := .loop { state := .ready, pending := none, fn, tmps := a.tmps, params := ps, assign, body, defers := w.heap.size }) (N := 0) l2 hn2 rfl (by
    rw [hsz]
    exact ⟨a.tmps, w.heap.size, 0, by simp, (hat.tr.mono hle1).mono hle2, hat.nt, hle2 _ _ (updR_self _ _ _), hlo⟩)
  rw [hsz] at r2
  refine ⟨_, ⟨Ren.le_trans hle1 hle2, fun k hk => ?_⟩, hle2 _ _ (updR_self _ _ _), updR_self _ _ _, ?_, r2, ?_⟩
  · rw [updR_ne _ _ (by omega), updR_ne _ _ (by omega)]
  · simp only [Instr.enterLoop, Sem.run_bind, newObj, Sem.run, Result.andThen_ok, Sem.run_pure]
    simp
  · exact ((Grew.alloc w _).trans (Grew.alloc _ _)).below hat.rel.size

theorem one_new {fn nt l0 bl N : Nat} {t : Tr AV} {ps : Array Tmp} {assign body : Code} {st : LoopState} {pend : Option Code} {f0 nt0 d0 : Nat} {t0 : Tr AV} {ps0 : List Tmp} {a0 b0 : Code} {s2 : AS} (hat : At B ρ s nt t w a) (h1 : ρ s.nx = none) (l1 : s.nx < top) (hlo : LoopOk none assign body)
    (hg : rdN l0 s = .ok (.loop st pend f0 t0 nt0 ps0 a0 b0 d0) s2) (hl : ρ l0 = some (bl, N)) :
    ∃ σ w', Ext s.nx (s.nx + 1) ρ σ ∧ (∃ bb M, σ s.nx = some (bb, M) ∧ (Instr.enterLoop fn a.tmps ps assign body (some bl)).run P w = .ok (bb, []) w') ∧
      Rel B σ (s.h.put s.nx (some (.loop .ready none fn t nt ps.toList assign body d0))) w' ∧ Below B w w' := by
  obtain ⟨hx, hget, hh, hnx⟩ := rdN_same hg
  have ht : l0 < top := Nat.lt_of_lt_of_le hx hat.fine.nx
  obtain ⟨o', hb, hO, hB⟩ := hat.rel.block ht hget hl
  obtain ⟨ta, db, M, rfl, htr, hnt, hd, _⟩ := hO
  have hle1 : ρ.le (updR ρ s.nx (w.heap.size, 0)) := updR_le h1
  have r1 := hat.rel.new (n := s.nx) (o := .loop .ready none fn t nt ps.toList assign body d0) (o' := .loop { state := .ready, pending := none, fn, tmps := a.tmps, params := ps, assign, body, defers := db }) (N := 0) l1 h1 rfl
    ⟨a.tmps, db, M, by simp, hat.tr.mono hle1, hat.nt, hle1 _ _ hd, hlo⟩
  refine ⟨_, _, Ext.upd h1, ⟨w.heap.size, 0, updR_self _ _ _, ?_⟩, r1, (Grew.alloc w _).below hat.rel.size⟩
  simp only [Instr.enterLoop, Sem.run_bind, run_getLoopObj hb, Result.andThen_ok, Sem.run_pure, newObj, Sem.run]

theorem itemsOk_andThen {p : Option Code} {k : List Item} (hp : ∀ c, p = some c → CodeOk c) (hk : ItemsOk k) : ItemsOk (andThen p k) := by
  cases p with
  | none => exact hk
  | some c => exact .cons (hp c rfl) hk
theorem andThen_eq (p : Option Code) (k : List Item) : (p.map Item.code).toList ++ k = andThen p k := by cases p <;> rfl

theorem range_sim {af : AF} {f : Operand} {ps : Array Tmp} {assign body : Code} {k : List Item} {x : Stp} (hc : CallSim P B call) (hl : ∀ t a, Local (call t a)) (hfr : Fr ρ af b a) (hat : At B ρ s af.nt af.tmps w a) (hf : Free s.nx s1.nx ρ)
    (htodo : af.todo = .code (.rangeFunc f ps assign body) :: k) (h : sRange f ps.toList assign body call af.fn af.tmps af.nt af.defers af.round k s = .ok x s1) : Went P B ρ s s1 w af b cs (lone (b.atR a af.todo) cs w) x := by
  have hcode : CodeOk assign ∧ CodeOk body := by have := hfr.ok; rw [htodo] at this; exact this.head
  have hlo : LoopOk none assign body := ⟨(fun c e => by cases e), hcode.1, hcode.2⟩
  have hk : ItemsOk k := by have := hfr.ok; rw [htodo] at this; exact this.tail
  unfold sRange at h
  cases hr : af.round with
  | none =>
    rw [hr] at h
    have hround := hfr.round
    rw [hr] at hround
    have hbr : b.roundOf = none := by
      cases e : b.roundOf with
      | none => rfl
      | some _ => rw [e] at hround; cases hround
    obtain ⟨df, s2, h1, h⟩ := M.bind_inv h
    obtain ⟨l, s3, h2, h⟩ := M.bind_inv h
    obtain ⟨g, h3, h⟩ := withO_inv h
    obtain ⟨y, s4, h4, h⟩ := M.bind_inv h
    obtain ⟨p, s5, h5, h⟩ := M.bind_inv h
    obtain ⟨rfl, rfl⟩ := pure_inv h
    obtain ⟨t1, rfl, rfl⟩ := newN_inv h1
    obtain ⟨t2, rfl, rfl⟩ := newN_inv h2
    have fi3 : Fine { s with h := (s.h.put s.nx (some .defs)).put (s.nx + 1) (some (.loop .ready none af.fn af.tmps af.nt ps.toList assign body s.nx)), nx := s.nx + 1 + 1 } := ⟨by have := hat.fine.mark; show s.mark ≤ s.nx + 1 + 1; omega, t2⟩
    have le4 := (Local.callV hl _ _).le fi3 h4
    have fi4 := (Local.callV hl _ _).fine fi3 h4
    have le5 := (Local.loopOver _).le fi4 h5
    have le4' : s.nx + 2 ≤ s4.nx := le4
    obtain ⟨σ, e1, e2, e3, e4, e5, e6⟩ := two_new (P := P) (fn := af.fn) (ps := ps) hat (hf _ (Nat.le_refl _) (by omega)) (hf _ (by omega) (by omega)) t1 t2 hlo
    have hfv : VR σ g (a.eval f) := (opd_sim hat.tr hat.g h3).mono e1.le
    have hfree : Free (s.nx + 2) s4.nx σ := (hf.sub (Nat.le_refl _) le5).next (by omega) e1
    have hback := callV_sim (P := P) hc (hat.g.mono e1.le) fi3 e5 hfree hfv (args := [.yield (s.nx + 1)]) (vs := #[.func (.yield (w.heap.size + 1)) #[] #[]])
      (by simp only [VRs, VR]; exact ⟨_, _, rfl, ⟨_, _, e3, rfl⟩, rfl⟩) h4
    have hent := (show (Instr.enterLoop b.fn a.tmps ps assign body b.roundOf).run P w = (Instr.enterLoop af.fn a.tmps ps assign body none).run P w by rw [hfr.fn, hbr]).trans e4
    obtain ⟨v, w', ⟨τ, g1, g2, g3, g4⟩, st⟩ := rangeCall_steps (cs := cs) (k := k) hent hback
    obtain ⟨q1, q2, w5, q3, q4, q5⟩ := loopOver_sim (P := P) fi4 g3 (g1.le _ _ e3) h5
    have ext : Ext s.nx s4.nx ρ τ := e1.trans (by omega) le4' g1
    refine ⟨τ, { a with defers := [{ target := .collected w.heap.size, args := #[] }] ++ a.defers }, w5, by rw [q1]; exact ext, ⟨hat.tr.mono ext.le, q4, hat.g.mono ext.le, hat.nt, (Local.loopOver _).fine fi4 h5⟩, ?_, (e6.trans g4).trans q5, ⟨rfl, rfl, hr.symm⟩, itemsOk_andThen q2 hk, trivial, ?_⟩
    · exact ⟨w.heap.size, 0, a.defers, rfl, g1.le _ _ e2, hfr.defs.mono ext.le⟩
    · rw [htodo]
      refine Steps.trans st (.one ?_)
      rw [stepR_endRangeFunc q3, andThen_eq]
      rfl
  | some l0 =>
    rw [hr] at h
    have hround := hfr.round
    rw [hr] at hround
    obtain ⟨bl, hbr, N0, hl0⟩ : ∃ bl, b.roundOf = some bl ∧ ∃ N, ρ l0 = some (bl, N) := by
      cases e : b.roundOf with
      | none => rw [e] at hround; cases hround
      | some bl => rw [e] at hround; exact ⟨bl, rfl, hround⟩
    obtain ⟨ob, s2, h1, h⟩ := M.bind_inv h
    obtain ⟨h1', st0, pend0, f0, t0, nt0, ps0, a0, b0, d0, rfl⟩ := getLoop_inv h1
    obtain ⟨l, s3, h2, h⟩ := M.bind_inv h
    obtain ⟨g, h3, h⟩ := withO_inv h
    obtain ⟨y, s4, h4, h⟩ := M.bind_inv h
    obtain ⟨p, s5, h5, h⟩ := M.bind_inv h
    obtain ⟨rfl, rfl⟩ := pure_inv h
    obtain ⟨hx, hget, hh, hnx⟩ := rdN_same h1'
    have fi2 : Fine s2 := (Local.rdN _).fine hat.fine h1'
    obtain ⟨t2, rfl, rfl⟩ := newN_inv h2
    have fi3 : Fine { s2 with h := s2.h.put s2.nx (some (.loop .ready none af.fn af.tmps af.nt ps.toList assign body d0)), nx := s2.nx + 1 } := ⟨by have := fi2.mark; show s2.mark ≤ s2.nx + 1; omega, t2⟩
    have le4 := (Local.callV hl _ _).le fi3 h4
    have fi4 := (Local.callV hl _ _).fine fi3 h4
    have le5 := (Local.loopOver _).le fi4 h5
    have le4' : s2.nx + 1 ≤ s4.nx := le4
    obtain ⟨σ, w2, e1, ⟨bb, M2, e3, e4⟩, e5, e6⟩ := one_new (P := P) (fn := af.fn) (ps := ps) hat (hf _ (Nat.le_refl _) (by omega)) (by rw [← hnx]; omega) hlo h1' hl0
    rw [← hh, ← hnx] at e5
    rw [← hnx] at e1 e3
    have hfv : VR σ g (a.eval f) := (opd_sim hat.tr hat.g h3).mono e1.le
    have hfree : Free (s2.nx + 1) s4.nx σ := (show Free s2.nx s4.nx ρ by rw [hnx]; exact hf.sub (Nat.le_refl _) le5).next (by omega) e1
    have hback := callV_sim (P := P) hc (hat.g.mono e1.le) fi3 e5 hfree hfv (args := [.yield s2.nx]) (vs := #[.func (.yield bb) #[] #[]])
      (by simp only [VRs, VR]; exact ⟨_, _, rfl, ⟨_, _, e3, rfl⟩, rfl⟩) h4
    have hent := (show (Instr.enterLoop b.fn a.tmps ps assign body b.roundOf).run P w = (Instr.enterLoop af.fn a.tmps ps assign body (some bl)).run P w by rw [hfr.fn, hbr]).trans e4
    obtain ⟨v, w', ⟨τ, g1, g2, g3, g4⟩, st⟩ := rangeCall_steps (cs := cs) (k := k) hent hback
    obtain ⟨q1, q2, w5, q3, q4, q5⟩ := loopOver_sim (P := P) fi4 g3 (g1.le _ _ e3) h5
    have ext : Ext s.nx s4.nx ρ τ := by rw [← hnx]; exact e1.trans (by omega) le4' g1
    refine ⟨τ, { a with defers := [] ++ a.defers }, w5, by rw [q1]; exact ext, ⟨hat.tr.mono ext.le, q4, hat.g.mono ext.le, hat.nt, (Local.loopOver _).fine fi4 h5⟩, ?_, (e6.trans g4).trans q5, ⟨rfl, rfl, hr.symm⟩, itemsOk_andThen q2 hk, trivial, ?_⟩
    · exact hfr.defs.mono ext.le
    · rw [htodo]
      refine Steps.trans st (.one ?_)
      rw [stepR_endRangeFunc q3, andThen_eq]
      rfl
end
end Go.Rn
