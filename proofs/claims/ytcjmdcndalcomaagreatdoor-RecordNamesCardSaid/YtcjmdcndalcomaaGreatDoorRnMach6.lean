/- Each step of a frame, and many. -/
import Derived.Test.YtcjmdcndalcomaaGreatDoorRnMach5
namespace Go.Rn
open Go.RowKit

theorem stepR_inScope {P : Program} {b : Frame} {a : Act} {k : List Item} {cs : List Frame} {w : World} {c : Code} : step P (lone (b.atR a (.inScope c :: k)) cs w) = .next (lone (b.atR a k) cs w) :=
  step_lone_go (by simp [stepG, stepG.exec, Frame.atR])
theorem stepR_scope {P : Program} {b : Frame} {a : Act} {k : List Item} {cs : List Frame} {w : World} {c : Code} : step P (lone (b.atR a (.code (.scope c) :: k)) cs w) = .next (lone (b.atR a (.code c :: .inScope c :: k)) cs w) :=
  step_lone_go (by simp [stepG, stepG.exec, Frame.atR])

section
variable {P : Program} {B : Nat} {ρ : Ren} {w : World} {s s1 : AS} {call : Caller} {b : Frame} {a : Act} {cs : List Frame}

theorem begin_sim {l bl N : Nat} {pend : Option Code} {f0 nt0 d0 : Nat} {t0 : Tr AV} {ps0 : List Tmp} {a0 b0 : Code} {u : Unit} {s2 : AS} (fi : Fine s) (r : Rel B ρ s.h w) (hl : ρ l = some (bl, N))
    (hg : rdN l s = .ok (.loop .ready pend f0 t0 nt0 ps0 a0 b0 d0) s2) (h : wrN l (some (.loop .busy pend f0 t0 nt0 ps0 a0 b0 d0)) s2 = .ok u s1) :
    s1.nx = s.nx ∧ ∃ w', (Instr.beginRound bl).run P w = .ok () w' ∧ Rel B ρ s1.h w' ∧ Below B w w' := by
  have hget := rdN_same hg
  have hok : ∀ c, pend = some c → CodeOk c := by
    obtain ⟨o', hb, hO, _⟩ := r.block (Nat.lt_of_lt_of_le hget.1 fi.nx) hget.2.1 hl
    obtain ⟨_, _, _, _, _, _, _, hlo⟩ := hO
    exact hlo.pend
  obtain ⟨e1, q, e2, e3, e4, _, _, _, _, _, _, _, e5, e6⟩ := loop_put fi r hg hl hok h
  refine ⟨e1, _, ?_, e5, e6⟩
  subst e4
  simp only [Instr.beginRound, Sem.run_bind, run_getLoopObj e2, Result.andThen_ok, run_setLoopObj e2, e3, Sem.run_pure]

theorem astep_sim (hmix : P.follows .mixedOrders = true) (hc : CallSim P B call) (hl : ∀ t a, Local (call t a)) {af : AF} {x : Stp} (hfr : Fr ρ af b a) (hat : At B ρ s af.nt af.tmps w a) (hf : Free s.nx s1.nx ρ)
    (h : astep P call af s = .ok x s1) : Went P B ρ s s1 w af b cs (lone (b.atR a af.todo) cs w) x := by
  obtain ⟨fn, t, nt, todo, d, r⟩ := af
  cases todo with
  | nil =>
    obtain ⟨rfl, rfl⟩ := pure_inv (show M.pure (.leave ⟨fn, t, nt, [], d, r⟩ none) s = .ok x s1 from h)
    exact went_calm hfr hat rfl rfl ⟨rfl, rfl, rfl⟩ .nil rfl (Steps.refl _ _)
  | cons it k =>
    have hk : ItemsOk k := hfr.ok.tail
    have hit : ItemOk it := hfr.ok.head
    have h' : (itemB P it).val call fn t nt d r k s = .ok x s1 := h
    have calm : ∀ (l : List Item), ItemsOk l → M.pure (.go ⟨fn, t, nt, l, d, r⟩) s = .ok x s1 → step P (lone (b.atR a (it :: k)) cs w) = .next (lone (b.atR a l) cs w) → Went P B ρ s s1 w ⟨fn, t, nt, it :: k, d, r⟩ b cs (lone (b.atR a (it :: k)) cs w) x := by
      intro l hl' hp hs
      obtain ⟨rfl, rfl⟩ := pure_inv hp
      exact went_calm hfr hat rfl rfl ⟨rfl, rfl, rfl⟩ hl' trivial (.one hs)
    cases it with
    | code c =>
      cases c with
      | skip => exact calm k hk h' stepR_skip
      | label l => exact calm k hk h' stepR_label
      | seq p q => exact calm (.code p :: .code q :: k) (.cons hit.1 (.cons hit.2 hk)) h' stepR_seq
      | cond c p q =>
        obtain ⟨v, h1, h2⟩ := withO_inv (show (withO (opd t c) fun v => withO (boolOf v) fun v => M.pure (.go ⟨fn, t, nt, .code (@Bool.rec (fun _ => Code) q p v) :: k, d, r⟩)) s = .ok x s1 from h')
        obtain ⟨y, h3, h4⟩ := withO_inv h2
        have hv := (opd_sim hat.tr hat.g h1).bool_inv h3
        cases y with
        | true => exact calm (.code p :: k) (.cons hit.1 hk) h4 (stepR_cond hv)
        | false => exact calm (.code q :: k) (.cons hit.2 hk) h4 (stepR_cond hv)
      | block id c => exact calm (.code c :: .inBlock id :: k) (.cons hit (.cons trivial hk)) h' stepR_block
      | loop c => exact calm (.code c :: .inLoop c :: k) (.cons hit (.cons hit hk)) h' stepR_loop
      | scope c => exact calm (.code c :: .inScope c :: k) (.cons hit (.cons hit hk)) h' stepR_scope
      | exit id =>
        have h2 : sExit id call fn t nt d r k s = .ok x s1 := h'
        unfold sExit at h2
        cases e : exitTo id k with
        | some k' => rw [e] at h2; exact calm k' (exitTo_ok e hk) h2 (stepR_exit e)
        | none =>
          rw [e] at h2
          obtain ⟨rfl, rfl⟩ := pure_inv h2
          exact went_calm hfr hat rfl rfl ⟨rfl, rfl, rfl⟩ hfr.ok ⟨k, rfl, e⟩ (Steps.refl _ _)
      | goto l =>
        have h2 : sGoto l call fn t nt d r k s = .ok x s1 := h'
        unfold sGoto at h2
        cases e : gotoIn l k with
        | some k' => rw [e] at h2; exact calm k' (gotoIn_ok e hk) h2 (stepR_goto e)
        | none =>
          rw [e] at h2
          obtain ⟨rfl, rfl⟩ := pure_inv h2
          exact went_calm hfr hat rfl rfl ⟨rfl, rfl, rfl⟩ hfr.ok ⟨k, rfl, e⟩ (Steps.refl _ _)
      | ret =>
        obtain ⟨rfl, rfl⟩ := pure_inv (show M.pure (.leave ⟨fn, t, nt, .code .ret :: k, d, r⟩ (some .ret)) s = .ok x s1 from h')
        exact went_calm hfr hat rfl rfl ⟨rfl, rfl, rfl⟩ hfr.ok ⟨k, rfl⟩ (Steps.refl _ _)
      | region id ops draw =>
        cases draw with
        | false =>
          obtain ⟨t1, s2, h1, h2⟩ := M.bind_inv (show ((aops P call nt ops ops.toList t).bind fun t => M.pure (.go ⟨fn, t, nt, k, d, r⟩)) s = .ok x s1 from h')
          obtain ⟨rfl, rfl⟩ := pure_inv h2
          exact went_goes hfr rfl hk (region_sim hc hl hat hf h1 b k cs)
        | true =>
          obtain ⟨t1, s2, h1, h2⟩ := M.bind_inv (show ((aregionD P call nt ops t).bind fun t => M.pure (.go ⟨fn, t, nt, k, d, r⟩)) s = .ok x s1 from h')
          obtain ⟨rfl, rfl⟩ := pure_inv h2
          exact went_goes hfr rfl hk (regionD_sim hmix (hit rfl) hc hl hat hf h1 b k cs)
      | rangeFunc f ps p q => exact range_sim hc hl hfr hat hf rfl h'
      | refuse why => cases h'
    | inBlock id => exact calm k hk h' stepR_inBlock
    | inScope c => exact calm k hk h' stepR_inScope
    | inLoop c => exact calm (.code c :: .inLoop c :: k) (.cons hit (.cons hit hk)) h' stepR_inLoop
    | beginRound =>
      have h2 : sBegin call fn t nt d r k s = .ok x s1 := h'
      unfold sBegin at h2
      cases r with
      | none => cases h2
      | some l =>
        obtain ⟨bl, hbr, N0, hl0⟩ : ∃ bl, b.roundOf = some bl ∧ ∃ N, ρ l = some (bl, N) := by
          have hround := hfr.round
          cases e : b.roundOf with
          | none => rw [e] at hround; cases hround
          | some bl => rw [e] at hround; exact ⟨bl, rfl, hround⟩
        obtain ⟨o, s2, h3, h4⟩ := M.bind_inv h2
        obtain ⟨h5, st, pend, f0, t0, nt0, ps0, a0, b0, d0, rfl⟩ := getLoop_inv h3
        cases st <;> first | (cases h4; done) | skip
        obtain ⟨u, s3, h6, h7⟩ := M.bind_inv h4
        obtain ⟨rfl, rfl⟩ := pure_inv h7
        obtain ⟨e1, w', e2, e3, e4⟩ := begin_sim (P := P) hat.fine hat.rel hl0 h5 h6
        have fi2 : Fine s1 := (Local.wrN _ _).fine ((Local.rdN _).fine hat.fine h5) h6
        exact ⟨ρ, a, w', by rw [e1]; exact Ext.refl _ _ _, ⟨hat.tr, e3, hat.g, hat.nt, fi2⟩, hfr.defs, e4, ⟨rfl, rfl, rfl⟩, hk, trivial, .one (stepR_beginRound hbr e2)⟩
    | _ => cases h'

/-- One goes on; then on. -/
theorem Went.then_ {af : AF} {fr : AF} {x : Stp} {s2 : AS} {m : Machine} (hfr : Fr ρ af b a) (h : Went P B ρ s s2 w af b cs m (.go fr)) (le1 : s.nx ≤ s2.nx) (le2 : s2.nx ≤ s1.nx)
    (k : ∀ (σ : Ren) (a' : Act) (w' : World), Ext s.nx s2.nx ρ σ → Fr σ fr b a' → At B σ s2 fr.nt fr.tmps w' a' → Went P B σ s2 s1 w' fr b cs (lone (b.atR a' fr.todo) cs w') x) : Went P B ρ s s1 w af b cs m x := by
  obtain ⟨σ, a', w', e1, e2, e3, e4, ⟨e5, e6, e7⟩, e8, _, e9⟩ := h
  have e6' : fr.nt = af.nt := e6
  obtain ⟨τ, a'', w'', f1, f2, f3, f4, ⟨f5, f6, f7⟩, f8, f9, f10⟩ := k σ a' w' e1 ⟨hfr.fn.trans e5.symm, hfr.kind, by have := hfr.round.mono e1.le; rw [← e7] at this; exact this, e3, e8⟩ (by rw [e6']; exact e2)
  exact ⟨τ, a'', w'', e1.trans le1 le2 f1, by rw [e6'] at f2; exact f2, f3, e4.trans f4, ⟨f5.trans e5, f6.trans e6, f7.trans e7⟩, f8, f9, Steps.trans e9 f10⟩

theorem aloop_sim (hmix : P.follows .mixedOrders = true) (hc : CallSim P B call) (hl : ∀ t a, Local (call t a)) : ∀ (n : Nat) {ρ : Ren} {w : World} {s s1 : AS} {a : Act} {af : AF} {x : Stp}, Fr ρ af b a → At B ρ s af.nt af.tmps w a → Free s.nx s1.nx ρ →
    aloop P call n af s = .ok x s1 → Went P B ρ s s1 w af b cs (lone (b.atR a af.todo) cs w) x
  | 0, ρ, w, s, s1, a, af, x, hfr, hat, hf, h => astep_sim hmix hc hl hfr hat hf h
  | n + 1, ρ, w, s, s1, a, af, x, hfr, hat, hf, h => by
    obtain ⟨y, s2, h1, h2⟩ := M.bind_inv (show ((aloop P call n af).bind fun x => @Stp.rec (fun _ => M Stp) (aloop P call n) (fun fr j => M.pure (.leave fr j)) x) s = .ok x s1 from h)
    have le1 := (Local.aloop P hl n af).le hat.fine h1
    have fi2 := (Local.aloop P hl n af).fine hat.fine h1
    cases y with
    | go fr =>
      have h2' : aloop P call n fr s2 = .ok x s1 := h2
      have le2 := (Local.aloop P hl n fr).le fi2 h2'
      have w1 := aloop_sim hmix hc hl n hfr hat (hf.sub (Nat.le_refl _) le2) h1
      exact w1.then_ hfr le1 le2 fun σ a' w' e1 hfr' hat' => aloop_sim hmix hc hl n hfr' hat' (hf.next le1 e1) h2'
    | leave fr j =>
      obtain ⟨rfl, rfl⟩ := pure_inv (show M.pure (.leave fr j) s2 = .ok x s1 from h2)
      exact aloop_sim hmix hc hl n hfr hat hf h1

theorem agrow_sim (hmix : P.follows .mixedOrders = true) (hc : CallSim P B call) (hl : ∀ t a, Local (call t a)) : ∀ (n k : Nat) {ρ : Ren} {w : World} {s s1 : AS} {a : Act} {af : AF} {x : Stp}, Fr ρ af b a → At B ρ s af.nt af.tmps w a → Free s.nx s1.nx ρ →
    agrow P call n k af s = .ok x s1 → Went P B ρ s s1 w af b cs (lone (b.atR a af.todo) cs w) x
  | 0, k, ρ, w, s, s1, a, af, x, hfr, hat, hf, h => by cases h
  | n + 1, k, ρ, w, s, s1, a, af, x, hfr, hat, hf, h => by
    obtain ⟨y, s2, h1, h2⟩ := M.bind_inv (show ((aloop P call k af).bind fun x => @Stp.rec (fun _ => M Stp) (fun fr => agrow P call n (Nat.succ k) fr) (fun fr j => M.pure (.leave fr j)) x) s = .ok x s1 from h)
    have le1 := (Local.aloop P hl k af).le hat.fine h1
    have fi2 := (Local.aloop P hl k af).fine hat.fine h1
    cases y with
    | go fr =>
      have h2' : agrow P call n (k + 1) fr s2 = .ok x s1 := h2
      have le2 := (Local.agrow P hl n (k + 1) fr).le fi2 h2'
      have w1 := aloop_sim (b := b) (cs := cs) hmix hc hl k hfr hat (hf.sub (Nat.le_refl _) le2) h1
      exact w1.then_ hfr le1 le2 fun σ a' w' e1 hfr' hat' => agrow_sim hmix hc hl n (k + 1) hfr' hat' (hf.next le1 e1) h2'
    | leave fr j =>
      obtain ⟨rfl, rfl⟩ := pure_inv (show M.pure (.leave fr j) s2 = .ok x s1 from h2)
      exact aloop_sim hmix hc hl k hfr hat hf h1
end
end Go.Rn
