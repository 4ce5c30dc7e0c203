/- Rounds of ranges over functions; functions by their text. -/
import Derived.Test.YtcjmdcndalcomaaGreatDoorRnMach6
namespace Go.Rn
open Go.RowKit

section
variable {P : Program} {B : Nat} {ρ : Ren} {w : World} {s s1 : AS} {call : Caller}

theorem setParams_sim {nt : Nat} (hnt : nt ≤ top) : ∀ {ps : List Tmp} {args : List AV} {vs : List Value} {t : Tr AV} {arr : Array Value}, TR ρ nt t arr → VRs ρ args vs → (∀ p ∈ ps, p < nt) →
    TR ρ nt (setParams ps args t) ((ps.zip vs).foldl (fun tmps (t, a) => tmps.setIfInBounds t a) arr)
  | [], args, vs, t, arr, h, _, _ => by simpa [setParams] using h
  | p :: ps, [], vs, t, arr, h, hv, _ => by
    simp only [VRs] at hv; subst hv
    simpa [setParams] using h
  | p :: ps, v :: args, vs, t, arr, h, hv, hp => by
    simp only [VRs] at hv
    obtain ⟨u, us, rfl, h1, h2⟩ := hv
    simp only [setParams, List.zip_cons_cons, List.foldl_cons]
    exact setParams_sim hnt (h.set (hp p List.mem_cons_self) hnt h1) h2 fun q hq => hp q (List.mem_cons_of_mem _ hq)

theorem endRound_sim {l bl N : Nat} {j : Option Code} {x : AV} (fi : Fine s) (r : Rel B ρ s.h w) (hl : ρ l = some (bl, N)) (hj : ∀ c, j = some c → CodeOk c) (h : endRound l j s = .ok x s1) :
    s1.nx = s.nx ∧ x = .bool j.isNone ∧ ∃ w', (Instr.endRound bl j).run P w = .ok (.bool j.isNone) w' ∧ Rel B ρ s1.h w' ∧ Below B w w' := by
  unfold endRound at h
  obtain ⟨o, s2, h1, h2⟩ := M.bind_inv h
  obtain ⟨h3, st, pend, fn, t, nt, ps, aa, bb, d, rfl⟩ := getLoop_inv h1
  obtain ⟨u, s3, h4, h5⟩ := M.bind_inv h2
  obtain ⟨rfl, rfl⟩ := pure_inv h5
  obtain ⟨e1, q, e2, e3, e4, _, _, _, _, _, _, _, e5, e6⟩ := loop_put fi r h3 hl hj h4
  refine ⟨e1, rfl, _, ?_, e5, e6⟩
  cases j <;> simp only [Instr.endRound, Sem.run_bind, run_getLoopObj e2, Result.andThen_ok, run_setLoopObj e2, Sem.run_pure] <;> rfl

theorem round_sim (hmix : P.follows .mixedOrders = true) (hc : CallSim P B call) (hl : ∀ t a, Local (call t a)) {l bl N : Nat} {args : List AV} {vs : Array Value} {x : AV} (fi : Fine s) (r : Rel B ρ s.h w) (hg : RenG ρ) (hf : Free s.nx s1.nx ρ)
    (h : runRound P call l args s = .ok x s1) (hv : VRs ρ args vs.toList) (hlb : ρ l = some (bl, N)) : Back P ((Instr.yield bl vs).run P w) (Came B ρ s s1 w x) := by
  unfold runRound at h
  obtain ⟨o, s2, h1, h2⟩ := M.bind_inv h
  obtain ⟨h3, st, pend, fn, t, nt, ps, aa, bb, d, rfl⟩ := getLoop_inv h1
  obtain ⟨h4, h5⟩ := withB_inv h2
  obtain ⟨y, s3, h6, h7⟩ := M.bind_inv h5
  obtain ⟨q1, q2⟩ := and_true.1 h4
  have hlen := beqN_true.1 q1
  have hps : ∀ p ∈ ps, p < nt := fun p hp => by have := List.all_eq_true.1 q2 p hp; rw [← blt_eq]; exact this
  obtain ⟨hx, hget, hh, hnx⟩ := rdN_same h3
  have fi2 : Fine s2 := (Local.rdN _).fine fi h3
  have hlt : l < top := Nat.lt_of_lt_of_le hx fi.nx
  obtain ⟨o', hb, hO, hB⟩ := r.block hlt hget hlb
  obtain ⟨ta, db, M, rfl, htr, hnt, hd, hlo⟩ := hO
  have hyield : (Instr.yield bl vs).run P w = .ok (.round bl fn ((ps.zip vs.toList).foldl (fun tmps (t, a) => tmps.setIfInBounds t a) ta) aa bb) w := by
    have hsz : ¬ (vs.size ≠ ps.toArray.size) := by
      have := hv.length
      simp at this ⊢; omega
    simp only [Instr.yield, Sem.run_bind, run_getLoopObj hb, Result.andThen_ok, if_neg hsz, Sem.run_pure]
    rw [← Array.foldl_toList]
    simp
  rw [hyield]
  intro c cs
  cases y with
  | go fr => cases h7
  | leave fr j =>
    have h7' : endRound l j s3 = .ok x s1 := h7
    let b : Frame := { (default : Frame) with fn := fn, kind := .normal, roundOf := some bl }
    let a : Act := { tmps := (ps.zip vs.toList).foldl (fun tmps (t, a) => tmps.setIfInBounds t a) ta, defers := [] }
    have le2 := (Local.agrow P hl depth 2 ⟨fn, setParams ps args t, nt, [.code aa, .beginRound, .code bb], [], some l⟩).le fi2 h6
    have fi3 := (Local.agrow P hl depth 2 ⟨fn, setParams ps args t, nt, [.code aa, .beginRound, .code bb], [], some l⟩).fine fi2 h6
    have le3 := (Local.endRound l j).le fi3 h7'
    have hfr : Fr ρ ⟨fn, setParams ps args t, nt, [.code aa, .beginRound, .code bb], [], some l⟩ b a := ⟨rfl, rfl, ⟨N, hlb⟩, rfl, .cons hlo.assign (.cons trivial (.cons hlo.body .nil))⟩
    have hat : At B ρ s2 nt (setParams ps args t) w a := ⟨setParams_sim hnt htr hv hps, by rw [hh]; exact r, hg, hnt, fi2⟩
    obtain ⟨σ, a', w', e1, e2, e3, e4, _, _, e6, e7⟩ := agrow_sim (cs := c :: cs) hmix hc hl depth 2 hfr hat (by rw [hnx]; exact hf.sub (Nat.le_refl _) le3) h6
    have e6' : Leaves j fr.todo := e6
    obtain ⟨f1, rfl, w'', f2, f3, f4⟩ := endRound_sim (P := P) fi3 e2.rel (e1.le _ _ hlb) e6'.code h7'
    refine ⟨.bool j.isNone, w'', ⟨σ, by rw [f1, ← hnx]; exact e1, by simp only [VR], f3, e4.trans f4⟩, ?_⟩
    have hstart : Frame.round bl fn ((ps.zip vs.toList).foldl (fun tmps (t, a) => tmps.setIfInBounds t a) ta) aa bb .normal = b.atR a [.code aa, .beginRound, .code bb] := rfl
    rw [hstart]
    refine Steps.trans e7 (.one ?_)
    show step P (lone (b.atR a' fr.todo) (c :: cs) w') = _
    unfold Leaves at e6'
    split at e6'
    · rw [e6']; exact stepR_round_end rfl rfl f2
    · obtain ⟨k, e⟩ := e6'; rw [e]; exact stepR_round_ret rfl rfl f2
    · obtain ⟨k, e, e'⟩ := e6'; rw [e]; exact stepR_round_exit rfl rfl e' f2
    · obtain ⟨k, e, e'⟩ := e6'; rw [e]; exact stepR_round_goto rfl rfl e' f2
    · cases e6'

theorem resultOf_sim {nt : Nat} {t : Tr AV} {tmps : Array Value} {rv : ResultVar} {x : AV} (ht : TR ρ nt t tmps) (fi : Fine s) (r : Rel B ρ s.h w) (h : resultOf P t rv s = .ok x s1) :
    s1.h = s.h ∧ s1.nx = s.nx ∧ Fine s1 ∧ ∃ v, (match rv with | .tmp t => pure (tmps.getD t undef) | .cell a t => do Go.loadVar t (← asAddr (tmps.getD a undef)) : Sem Value).run P w = .ok v w ∧ VR ρ x v := by
  cases rv with
  | tmp i =>
    obtain ⟨rfl, rfl⟩ := pure_inv (show M.pure ((t.get i).getD aundef) s = .ok x s1 from h)
    exact ⟨rfl, rfl, fi, _, rfl, ht.2 i⟩
  | cell a ty =>
    obtain ⟨ad, s2, h1, h2⟩ := M.bind_inv (show ((lift (addrOf ((t.get a).getD aundef))).bind fun a => Rn.loadVar P ty a.1 a.2) s = .ok x s1 from h)
    obtain ⟨h3, hs⟩ := lift_inv h1
    subst hs
    obtain ⟨b, N, h4, h5⟩ := (ht.2 a).addr_inv h3
    obtain ⟨a1, a2, v, a3, a4⟩ := loadVar_sim (P := P) fi r h2 h4
    exact ⟨a1, a2, (Local.loadVar P ty _ _).fine fi h2, v, by simp [h5, asAddr, a3], a4⟩

theorem resultsOf_sim {nt : Nat} {t : Tr AV} {tmps : Array Value} (ht : TR ρ nt t tmps) : ∀ {l : List ResultVar} {vs : List AV} {s s1 : AS}, Fine s → Rel B ρ s.h w → resultsOf P t l s = .ok vs s1 →
    s1.h = s.h ∧ s1.nx = s.nx ∧ ∃ us, (l.mapM fun | .tmp t => pure (tmps.getD t undef) | .cell a t => do Go.loadVar t (← asAddr (tmps.getD a undef)) : Sem (List Value)).run P w = .ok us w ∧ VRs ρ vs us
  | [], vs, s, s1, fi, r, h => by
    obtain ⟨rfl, rfl⟩ := pure_inv (show M.pure [] s = .ok vs s1 from h)
    exact ⟨rfl, rfl, [], rfl, by simp [VRs]⟩
  | rv :: l, vs, s, s1, fi, r, h => by
    obtain ⟨v, s2, h1, h2⟩ := M.bind_inv (show ((resultOf P t rv).bind fun v => (resultsOf P t l).bind fun vs => M.pure (v :: vs)) s = .ok vs s1 from h)
    obtain ⟨us, s3, h3, h4⟩ := M.bind_inv h2
    obtain ⟨rfl, rfl⟩ := pure_inv h4
    obtain ⟨a1, a2, a3, u, a4, a5⟩ := resultOf_sim ht fi r h1
    obtain ⟨b1, b2, us', b3, b4⟩ := resultsOf_sim ht a3 (by rw [a1]; exact r) h3
    refine ⟨b1.trans a1, b2.trans a2, u :: us', ?_, ?_⟩
    · rw [List.mapM_cons]
      simp only [Sem.run_bind, a4, Result.andThen_ok, b3, Sem.run_pure]
    · simp only [VRs]; exact ⟨u, us', rfl, a5, b4⟩

theorem dropDefs_sim {fr : Frame} {cs : List Frame} : ∀ {l : List Nat} {ds : List Deferred} {s s1 : AS} {w : World} {u : Unit}, Fine s → Rel B ρ s.h w → DefR ρ l ds → dropDefs l s = .ok u s1 →
    s1.nx = s.nx ∧ Fine s1 ∧ ∃ w', Rel B ρ s1.h w' ∧ Below B w w' ∧ ∀ (fr : Frame) (cs : List Frame), fr.mode ≠ .run → fr.defers = ds → Steps P (lone fr cs w) (lone { fr with defers := [] } cs w')
  | [], ds, s, s1, w, u, fi, r, hd, h => by
    obtain ⟨_, rfl⟩ := pure_inv (show M.pure () s = .ok u s1 from h)
    have hd' : ds = [] := hd
    subst hd'
    exact ⟨rfl, fi, w, r, Below.refl _ _, fun fr cs _ e => by rw [← e]; exact Steps.refl _ _⟩
  | d :: l, ds, s, s1, w, u, fi, r, hd, h => by
    obtain ⟨b, N, ds', rfl, hn, hds⟩ := hd
    obtain ⟨o, s2, h1, h2⟩ := M.bind_inv (show ((rdN d).bind fun o => match o with | .defs => (wrN d none).bind fun _ => dropDefs l | _ => fail) s = .ok u s1 from h)
    obtain ⟨hx, hget, hh, hnx⟩ := rdN_same h1
    have fi2 := (Local.rdN d).fine fi h1
    have hlt : d < top := Nat.lt_of_lt_of_le hx fi.nx
    obtain ⟨o', hb, hO, hB⟩ := r.block hlt hget hn
    cases o with
    | defs =>
      obtain ⟨u2, s3, h3, h4⟩ := M.bind_inv h2
      have fi3 := (Local.wrN d none).fine fi2 h3
      obtain ⟨_, _, _, i1, i2⟩ := wrN_same h3
      have hO' : o' = .deferred (some []) := hO
      subst hO'
      obtain ⟨g3, g4⟩ := setObj_only (o' := .deferred none) hb
      obtain ⟨k1, _⟩ := r.dropAt hlt hget rfl hn g3
      obtain ⟨e1, e2, w', e3, e4, e5⟩ := dropDefs_sim (fr := fr) (cs := cs) fi3 (by rw [i1, hh]; exact k1) hds h4
      refine ⟨by rw [e1, i2, hnx], e2, w', e3, (g3.below (hB rfl)).trans e4, fun fr cs hm hdf => ?_⟩
      have htake : (Instr.takeDeferred b).run P w = .ok [] { w with heap := w.heap.setIfInBounds b (.deferred none) } := by
        simp [Instr.takeDeferred, getObj, setObj, Sem.run, hb]
      have hs := step_collected (P := P) (cs := cs) hm hdf rfl htake
      exact .head hs (e5 { fr with defers := [] ++ ds' } cs hm rfl)
    | _ => cases h2
end
end Go.Rn
