/- Steps of regions in the row of their text. -/
import Derived.Test.YtcjmdcndalcomaaGreatDoorRnMach2
namespace Go.Rn
open Go.RowKit

section
variable {P : Program} {B : Nat} {ρ : Ren} {w : World} {s s1 : AS} {x : AV} {call : Caller} {t : Tr AV} {o : Oper}

theorem callV_sim {f : AV} {args : List AV} {vf : Value} {vs : Array Value} (hc : CallSim P B call) (hg : RenG ρ) (fi : Fine s) (r : Rel B ρ s.h w) (hf : Free s.nx s1.nx ρ)
    (hfv : VR ρ f vf) (hl : VRs ρ args vs.toList) (h4 : callV call f args s = .ok x s1) : Back P ((do let d ← Deferred.ofValue vf vs; invoke d.target d.args : Sem Next).run P w) (Came B ρ s s1 w x) := by
  unfold callV at h4
  split at h4
  · rename_i g first captured
    obtain ⟨_, p, q, e, hp, hq⟩ := hfv.func_inv
    have hargs : VRs ρ (first ++ args ++ captured) (p ++ vs ++ q).toList := by
      rw [Array.toList_append, Array.toList_append]
      exact (hp.append hl).append hq
    have := hc.fn g _ x s s1 ρ w _ fi r hg hf h4 hargs
    simp only [Deferred.ofValue, e, Sem.run_bind, Sem.run_pure, Result.andThen_ok, invoke]
    exact this
  · rename_i n
    have hv' := hfv
    simp only [VR] at hv'
    obtain ⟨b, N, hn, e⟩ := hv'
    have := hc.round n b N _ x s s1 ρ w vs fi r hg hf h4 hl hn
    simp only [Deferred.ofValue, e, Sem.run_bind, Sem.run_pure, Result.andThen_ok, invoke]
    simpa using this
  · cases h4

theorem back_steps {ops : Array Oper} {i : Nat} {a : Act} {R : Value → World → Prop} (ho : ops[i]? = some o) (hw : Region.wanted o (yielded ops a.tmps) = true) (hd : ∀ c, o.op ≠ .defer c)
    (h : Back P ((execOp a.eval o).run P w) R) (b : Frame) (k : List Item) (cs : List Frame) (rest : List Nat) :
    ∃ v w', R v w' ∧ Steps P (lone (b.atR a (.inRegion ops (i :: rest) :: k)) cs w) (lone (b.atR (a.put o.dst v) (.inRegion ops rest :: k)) cs w') := by
  have hg := stepGR_op (P := P) (b := b) (k := k) (cs := cs) (w := w) (rest := rest) ho hw
  rw [Oper.semAt_eq _ _ _ hd] at hg
  have hfin : ∀ v, (b.atR a (.inRegion ops (i :: rest) :: k)).finish v = b.atR (a.put o.dst v) (.inRegion ops rest :: k) := by
    intro v; rw [Frame.finish_atR, ho]; rfl
  generalize hr : (execOp a.eval o).run P w = res at h
  unfold Back at h
  split at h
  · rename_i v w'
    refine ⟨v, w', h, .one (step_lone_go ?_)⟩
    rw [hg, ← hfin]; simp [stepG.apply, hr]
  · rename_i w'
    refine ⟨undef, w', h, .one (step_lone_go ?_)⟩
    rw [hg, ← hfin]; simp [stepG.apply, hr]
  · rename_i f args w'
    obtain ⟨e, w'', fr, ⟨v, rfl, hR⟩, hsteps, hfn, hleave⟩ := h (b.atR a (.inRegion ops (i :: rest) :: k) :: cs)
    have henter : step P (lone (b.atR a (.inRegion ops (i :: rest) :: k)) cs w) = .next (lone (Frame.enter P f args .normal) (b.atR a (.inRegion ops (i :: rest) :: k) :: cs) w') :=
      step_lone_go (by rw [hg]; simp [stepG.apply, hr, Frame.atR])
    refine ⟨v, w'', hR, .head henter (Steps.trans hsteps (.one ?_))⟩
    rw [← hfin]; exact step_leave_returned hleave
  · rename_i l f tmps assign body w'
    obtain ⟨v, w'', hR, hsteps⟩ := h (b.atR a (.inRegion ops (i :: rest) :: k)) cs
    have henter : step P (lone (b.atR a (.inRegion ops (i :: rest) :: k)) cs w) = .next (lone (Frame.round l f tmps assign body .normal) (b.atR a (.inRegion ops (i :: rest) :: k) :: cs) w') :=
      step_lone_go (by rw [hg]; simp [stepG.apply, hr, Frame.atR])
    refine ⟨v, w'', hR, .head henter ?_⟩
    rw [← hfin]; exact hsteps
  · cases h

theorem yielded_sim {ops : Array Oper} {nt : Nat} {a : Act} (ht : TR ρ nt t a.tmps) (j : Nat) : yielded ops a.tmps j = ayielded ops t j := by
  unfold yielded ayielded
  cases e1 : ops[j]? with
  | none => rfl
  | some o =>
    simp only [Option.bind_some]
    cases e2 : o.dst with
    | none => rfl
    | some d =>
      simp only [Option.bind_some]
      have hv := ht.2 d
      cases e3 : a.tmps[d]? with
      | none =>
        rw [Array.getD_eq_getD_getElem?, e3] at hv
        cases e4 : t.get d with
        | none => rfl
        | some y =>
          rw [e4] at hv
          cases y <;> first | rfl | (exfalso; simp only [Option.getD_some, Option.getD_none, VR, Go.undef] at hv; cases hv)
      | some v =>
        rw [Array.getD_eq_getD_getElem?, e3] at hv
        simp only [Option.getD_some] at hv
        cases e4 : t.get d with
        | none =>
          rw [e4] at hv
          simp only [Option.getD_none, aundef, VR] at hv
          obtain ⟨q, rfl, _⟩ := hv
          rfl
        | some y =>
          rw [e4] at hv
          simp only [Option.getD_some] at hv
          cases v with
          | bool c => rw [bool_of hv]
          | _ => cases y <;> first | rfl | (exfalso; simp only [VR] at hv; cases hv)

theorem awanted_sim {ops : Array Oper} {nt : Nat} {a : Act} {g : Nat × Bool} (ht : TR ρ nt t a.tmps) (hg : o.guard = some g) : Region.wanted o (yielded ops a.tmps) = awanted ops g t := by
  unfold Region.wanted awanted
  rw [hg]
  simp only [yielded_sim ht]
  cases ayielded ops t g.1 with
  | none => rfl
  | some b => cases b <;> cases g.2 <;> rfl

theorem aput_inv {nt : Nat} {dst : Option Tmp} {v : AV} {t1 : Tr AV} (h : aput nt t dst v = some t1) : (dst = none ∧ t1 = t) ∨ ∃ d, dst = some d ∧ d < nt ∧ t1 = t.put d (some v) := by
  cases dst with
  | none => injection h with h; exact .inl ⟨rfl, h.symm⟩
  | some d =>
    have h' : @Bool.rec (fun _ => Option (Tr AV)) none (some (t.put d (some v))) (Nat.blt d nt) = some t1 := h
    rw [rec_blt] at h'
    by_cases q : d < nt
    · rw [if_pos q] at h'; injection h' with h'; exact .inr ⟨d, rfl, q, h'.symm⟩
    · rw [if_neg q] at h'; cases h'
theorem aput_sim {nt : Nat} {dst : Option Tmp} {y : AV} {v : Value} {t1 : Tr AV} {a : Act} (ht : TR ρ nt t a.tmps) (hnt : nt ≤ top) (h : aput nt t dst y = some t1) (hv : VR ρ y v) : TR ρ nt t1 (a.put dst v).tmps ∧ (a.put dst v).defers = a.defers := by
  rcases aput_inv h with ⟨rfl, rfl⟩ | ⟨d, rfl, hd, rfl⟩
  · exact ⟨ht, rfl⟩
  · exact ⟨ht.set hd hnt hv, rfl⟩

/-- Where a frame stands, under names. -/
structure At (B : Nat) (ρ : Ren) (s : AS) (nt : Nat) (t : Tr AV) (w : World) (a : Act) : Prop where
  tr : TR ρ nt t a.tmps
  rel : Rel B ρ s.h w
  g : RenG ρ
  nt : nt ≤ top
  fine : Fine s

/-- What goes on under names goes on. -/
def Goes (P : Program) (B : Nat) (ρ : Ren) (s s1 : AS) (nt : Nat) (t1 : Tr AV) (w : World) (a : Act) (m : Machine) (m' : Act → World → Machine) : Prop :=
  ∃ σ a' w', Ext s.nx s1.nx ρ σ ∧ At B σ s1 nt t1 w' a' ∧ a'.defers = a.defers ∧ Below B w w' ∧ Steps P m (m' a' w')

theorem aone_sim {ops : Array Oper} {i nt : Nat} {a : Act} {t1 : Tr AV} (hc : CallSim P B call) (hl : ∀ t a, Local (call t a)) (ho : ops[i]? = some o) (hat : At B ρ s nt t w a) (hf : Free s.nx s1.nx ρ) (h : aone P call nt ops o t s = .ok t1 s1)
    (b : Frame) (k : List Item) (cs : List Frame) (rest : List Nat) :
    Goes P B ρ s s1 nt t1 w a (lone (b.atR a (.inRegion ops (i :: rest) :: k)) cs w) (fun a' w' => lone (b.atR a' (.inRegion ops rest :: k)) cs w') := by
  have main : ∀ (f : (opB P o.op).val call t s = (opB P o.op).val call t s), Region.wanted o (yielded ops a.tmps) = true → kOp (opB P o.op) o.dst call nt t s = .ok t1 s1 →
      Goes P B ρ s s1 nt t1 w a (lone (b.atR a (.inRegion ops (i :: rest) :: k)) cs w) (fun a' w' => lone (b.atR a' (.inRegion ops rest :: k)) cs w') := by
    intro _ hw hk
    unfold kOp at hk
    obtain ⟨v, s2, h1, h2⟩ := M.bind_inv hk
    obtain ⟨h3, rfl⟩ := lift_inv h2
    obtain ⟨hd, hb⟩ := op_sim hc hat.tr hat.g hat.fine hat.rel hf h1
    obtain ⟨u, w', ⟨σ, e1, e2, e3, e4⟩, st⟩ := back_steps ho hw hd hb b k cs rest
    obtain ⟨q1, q2⟩ := aput_sim (hat.tr.mono e1.le) hat.nt h3 e2
    exact ⟨σ, a.put o.dst u, w', e1, ⟨q1, e3, hat.g.mono e1.le, hat.nt, (Local.aop P hl t o.op).fine hat.fine h1⟩, q2, e4, st⟩
  unfold aone slotB at h
  cases hg : o.guard with
  | none =>
    rw [hg] at h
    exact main rfl (by unfold Region.wanted; rw [hg]) h
  | some g =>
    rw [hg] at h
    have h' : kOpIf ops g (opB P o.op) o.dst call nt t s = .ok t1 s1 := h
    unfold kOpIf at h'
    have hw := awanted_sim (ops := ops) hat.tr hg
    cases q : awanted ops g t with
    | true => rw [q] at h' hw; exact main rfl hw h'
    | false =>
      rw [q] at h' hw
      obtain ⟨h3, rfl⟩ := lift_inv (show lift (aput nt t o.dst aundef) s = .ok t1 s1 from h')
      obtain ⟨q1, q2⟩ := aput_sim hat.tr hat.nt h3 (VR.undef ρ)
      have hs := stepR_op_skip (P := P) (b := b) (a := a) (k := k) (cs := cs) (w := w) (ops := ops) (i := i) (rest := rest) (by simp [ho]; simpa using hw)
      simp only [ho, Option.bind_some] at hs
      exact ⟨ρ, a.put o.dst undef, w, Ext.refl _ _ _, ⟨q1, hat.rel, hat.g, hat.nt, hat.fine⟩, q2, Below.refl _ _, .one hs⟩

theorem aops_sim {ops : Array Oper} {nt : Nat} (hc : CallSim P B call) (hl : ∀ t a, Local (call t a)) (b : Frame) (k : List Item) (cs : List Frame) : ∀ (n i : Nat) (l : List Oper) {t t1 : Tr AV} {s s1 : AS} {ρ : Ren} {a : Act} {w : World}, l.length = n → ops.toList.drop i = l →
    At B ρ s nt t w a → Free s.nx s1.nx ρ → aops P call nt ops l t s = .ok t1 s1 →
    Goes P B ρ s s1 nt t1 w a (lone (b.atR a (.inRegion ops (List.range' i n) :: k)) cs w) (fun a' w' => lone (b.atR a' k) cs w')
  | 0, i, l, t, t1, s, s1, ρ, a, w, hn, _, hat, _, h => by
    have : l = [] := List.eq_nil_of_length_eq_zero hn
    subst this
    obtain ⟨rfl, rfl⟩ := pure_inv (show M.pure t s = .ok t1 s1 from h)
    exact ⟨ρ, a, w, Ext.refl _ _ _, hat, rfl, Below.refl _ _, .one stepR_region_end⟩
  | n + 1, i, l, t, t1, s, s1, ρ, a, w, hn, hl', hat, hf, h => by
    cases l with
    | nil => cases hn
    | cons o l =>
      obtain ⟨t2, s2, h1, h2⟩ := M.bind_inv (show ((aone P call nt ops o t).bind (aops P call nt ops l)) s = .ok t1 s1 from h)
      have ho : ops[i]? = some o := by
        have : (ops.toList.drop i)[0]? = some o := by rw [hl']; rfl
        rw [List.getElem?_drop] at this; simpa using this
      have hrest : ops.toList.drop (i + 1) = l := by
        rw [← List.drop_drop, hl']; rfl
      have le1 : s.nx ≤ s2.nx := (Local.aone P hl nt ops o t).le hat.fine h1
      have fi2 : Fine s2 := (Local.aone P hl nt ops o t).fine hat.fine h1
      have le2 : s2.nx ≤ s1.nx := (Local.aops P hl nt ops l t2).le fi2 h2
      obtain ⟨σ, a', w', e1, e2, e3, e4, e5⟩ := aone_sim hc hl ho hat (hf.sub (Nat.le_refl _) le2) h1 b k cs (List.range' (i + 1) n)
      obtain ⟨τ, a'', w'', f1, f2, f3, f4, f5⟩ := aops_sim hc hl b k cs n (i + 1) l (by simpa using hn) hrest e2 (hf.next le1 e1) h2
      exact ⟨τ, a'', w'', e1.trans le1 le2 f1, f2, f3.trans e3, e4.trans f4, by rw [List.range'_succ]; exact Steps.trans e5 f5⟩

theorem region_sim {ops : Array Oper} {nt id : Nat} {t1 : Tr AV} {a : Act} (hc : CallSim P B call) (hl : ∀ t a, Local (call t a)) (hat : At B ρ s nt t w a) (hf : Free s.nx s1.nx ρ) (h : aops P call nt ops ops.toList t s = .ok t1 s1)
    (b : Frame) (k : List Item) (cs : List Frame) :
    Goes P B ρ s s1 nt t1 w a (lone (b.atR a (.code (.region id ops false) :: k)) cs w) (fun a' w' => lone (b.atR a' k) cs w') := by
  obtain ⟨σ, a', w', e1, e2, e3, e4, e5⟩ := aops_sim hc hl b k cs ops.size 0 ops.toList (by simp) (by simp) hat hf h
  exact ⟨σ, a', w', e1, e2, e3, e4, .head stepR_region (by rw [List.range_eq_range']; exact e5)⟩
end
end Go.Rn
