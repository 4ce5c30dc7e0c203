/- Calls without a bound on steps; functions that are known by other means than their text. -/
import Derived.Test.YtbnjeblcleihkaaGreatDoorRnSegA
namespace Go.Rn
open Go.RowKit
noncomputable section
def Stp.isLeave : Stp → Bool
  | .go _ => false
  | .leave _ _ => true
def leaveM (P : Program) (call : Caller) (fr : AF) : M Stp := fun s =>
  @dite (R Stp) (∃ k, ∃ x s1, arow P call k fr s = .ok x s1 ∧ x.isLeave = true) (Classical.propDecidable _) (fun h => arow P call h.choose fr s) (fun _ => .bad)
def kBodyI (P : Program) (f ntmps : Nat) (rs : List ResultVar) (body : Code) (call : Caller) (args : List AV) : M AV :=
  withB (Nat.ble (max ntmps args.length) top) <|
  (leaveM P call ⟨f, fillArgs args, max ntmps args.length, [.code body], [], none⟩).bind fun st =>
    @Stp.rec (fun _ => M AV) (fun _ => fail) (fun fr j => finish P rs fr j) st
def runRoundI (P : Program) (call : Caller) (l : Nat) (args : List AV) : M AV := (getLoop l).bind fun o => match o with
  | .loop _ _ fn t nt ps a b _ =>
    withB (and (Nat.beq args.length ps.length) (ps.all fun p => Nat.blt p nt)) <|
    (leaveM P call ⟨fn, setParams ps args t, nt, [.code a, .beginRound, .code b], [], some l⟩).bind fun st =>
      @Stp.rec (fun _ => M AV) (fun _ => fail) (fun _ j => endRound l j) st
  | _ => fail
abbrev Sp := FuncId → Option (Caller → List AV → M AV)
def fnI (P : Program) (sp : Sp) (f : FuncId) : Caller → List AV → M AV :=
  match sp f with
  | some m => m
  | none => match P.funcs[f]? with
    | none => fun _ _ => fail
    | some fn => match fn.body with
      | none => fun _ _ => fail
      | some body => match fn.name == "runtime.NumGoroutine" with
        | true => fun _ _ => fail
        | false => kBodyI P f fn.ntmps fn.results.toList body
def rowM (F : Nat → Option (List AV)) (n o k : Nat) : M AV :=
  withO (F n) fun l => withB (Nat.ble (o + k) l.length) <| M.pure (.agg ((l.drop o).take k))
def arunI (P : Program) (sp : Sp) (F : Nat → Option (List AV)) : Nat → Caller
  | 0 => fun t _ => match t with
    | .row n o k => rowM F n o k
    | _ => fail
  | n + 1 => fun t args => match t with
    | .fn f => fnI P sp f (arunI P sp F n) args
    | .round l => runRoundI P (arunI P sp F n) l args
    | .row n o k => rowM F n o k
end
section
variable {P : Program} {B : Base} {ρ : Ren} {w : World} {s s1 : AS} {call : Caller} {b : Frame} {a : Act} {cs : List Frame}
theorem arow_succ {k : Nat} {fr : AF} : arow P call (k + 1) fr s = ((astep P call fr).bind fun x => @Stp.rec (fun _ => M Stp) (arow P call k) (fun fr j => M.pure (.leave fr j)) x) s := rfl
theorem arow_go {k : Nat} {fr fr1 : AF} (h : astep P call fr s = .ok (.go fr1) s1) : arow P call (k + 1) fr s = arow P call k fr1 s1 := by
  rw [arow_succ, M.bind_ok h]
theorem arow_out {k : Nat} {fr fr1 : AF} {j : Option Code} (h : astep P call fr s = .ok (.leave fr1 j) s1) : arow P call (k + 1) fr s = .ok (.leave fr1 j) s1 := by
  rw [arow_succ, M.bind_ok h]; rfl
theorem arow_stay : ∀ {k k' : Nat} {fr fr1 : AF} {j : Option Code} {s s1 : AS}, arow P call k fr s = .ok (.leave fr1 j) s1 → k ≤ k' → arow P call k' fr s = .ok (.leave fr1 j) s1
  | 0, _, _, _, _, _, _, h, _ => by cases h
  | k + 1, 0, _, _, _, _, _, _, hk => by omega
  | k + 1, k' + 1, fr, fr1, j, s, s1, h, hk => by
    obtain ⟨y, s2, h1, h2⟩ := M.bind_inv (show ((astep P call fr).bind fun x => @Stp.rec (fun _ => M Stp) (arow P call k) (fun fr j => M.pure (.leave fr j)) x) s = .ok _ s1 from h)
    cases y with
    | go fr' => rw [arow_go h1]; exact arow_stay (show arow P call k fr' s2 = _ from h2) (by omega)
    | leave fr' j' => rw [arow_out h1]; exact h2
theorem leaveM_ok {k : Nat} {fr fr1 : AF} {j : Option Code} (h : arow P call k fr s = .ok (.leave fr1 j) s1) : leaveM P call fr s = .ok (.leave fr1 j) s1 := by
  have hex : ∃ k, ∃ x s1, arow P call k fr s = .ok x s1 ∧ x.isLeave = true := ⟨k, _, _, h, rfl⟩
  unfold leaveM
  rw [dif_pos hex]
  obtain ⟨x, s2, h1, h2⟩ := hex.choose_spec
  cases x with
  | go _ => cases h2
  | leave fr2 j2 =>
    have e1 := arow_stay h1 (Nat.le_max_left hex.choose k)
    have e2 := arow_stay h (Nat.le_max_right hex.choose k)
    rw [e1] at e2
    rw [h1, e2]
theorem leaveM_inv {fr : AF} {x : Stp} (h : leaveM P call fr s = .ok x s1) : ∃ k fr1 j, x = .leave fr1 j ∧ arow P call k fr s = .ok (.leave fr1 j) s1 := by
  unfold leaveM at h
  split at h
  · rename_i hex
    obtain ⟨y, s2, h1, h2⟩ := hex.choose_spec
    cases y with
    | go _ => cases h2
    | leave fr2 j2 =>
      rw [h1] at h
      cases h
      exact ⟨_, fr2, j2, rfl, h1⟩
  · cases h
theorem Local.leaveM (P : Program) {call : Caller} (hl : ∀ t a, Local (call t a)) (fr : AF) : Local (leaveM P call fr) := by
  intro s v s1 fi h
  obtain ⟨k, fr1, j, rfl, h1⟩ := leaveM_inv h
  obtain ⟨dr, dw, d, al⟩ := Local.arow P hl k fr s _ s1 fi h1
  refine ⟨dr, dw, d, fun A m0 t ag hA => ?_⟩
  obtain ⟨t1, e1, e2⟩ := al A m0 t ag hA
  exact ⟨t1, leaveM_ok e1, e2⟩
theorem Local.kBodyI (P : Program) (f n : Nat) (rs : List ResultVar) (body : Code) {call : Caller} (hcall : ∀ t a, Local (call t a)) (args : List AV) : Local (kBodyI P f n rs body call args) :=
  Local.withB (fun _ => Local.bind (Local.leaveM P hcall _) (fun x => by
    cases x with
    | go fr => exact Local.fail
    | leave fr j => exact Local.finish P rs fr j))
theorem Local.runRoundI (P : Program) {call : Caller} (hcall : ∀ t a, Local (call t a)) (l : Nat) (args : List AV) : Local (runRoundI P call l args) := by
  unfold Rn.runRoundI
  refine Local.bind (Local.getLoop _) (fun o => ?_)
  split
  · exact Local.withB (fun _ => Local.bind (Local.leaveM P hcall _) (fun x => by
      cases x with
      | go fr => exact Local.fail
      | leave fr j => exact Local.endRound l j))
  · exact Local.fail
structure SpOk (P : Program) (B : Base) (sp : Sp) : Prop where
  loc : ∀ f m, sp f = some m → ∀ call : Caller, (∀ t a, Local (call t a)) → ∀ args, Local (m call args)
  sim : ∀ f m, sp f = some m → ∀ call : Caller, CallSim P B call → (∀ t a, Local (call t a)) → ∀ (args : List AV) (x : AV) (s s1 : AS) (ρ : Ren) (w : World) (vs : Array Value), Fine s → Rel B ρ s.h w → RenG ρ → Free s.nx s1.nx ρ →
    m call args s = .ok x s1 → VRs ρ args vs.toList → Back P ((callFunc f vs).run P w) (Came B ρ s s1 w x)
theorem fnI_sp {sp : Sp} {f : FuncId} {m : Caller → List AV → M AV} (h : sp f = some m) : fnI P sp f = m := by unfold fnI; rw [h]
theorem fnI_text {sp : Sp} {f : FuncId} {fn : Func} {body : Code} (h : sp f = none) (hfn : P.funcs[f]? = some fn) (hbody : fn.body = some body) (hname : (fn.name == "runtime.NumGoroutine") = false) : fnI P sp f = kBodyI P f fn.ntmps fn.results.toList body := by
  unfold fnI; simp only [h, hfn, hbody, hname]
theorem fnI_cases (sp : Sp) (f : FuncId) : (∃ m, sp f = some m ∧ fnI P sp f = m) ∨ (fnI P sp f = fun _ _ => fail) ∨ (∃ fn body, P.funcs[f]? = some fn ∧ fn.body = some body ∧ (fn.name == "runtime.NumGoroutine") = false ∧ fnI P sp f = kBodyI P f fn.ntmps fn.results.toList body) := by
  cases e : sp f with
  | some m => exact .inl ⟨m, rfl, fnI_sp e⟩
  | none =>
    cases e1 : P.funcs[f]? with
    | none => refine .inr (.inl ?_); unfold fnI; simp only [e, e1]
    | some fn =>
      cases e2 : fn.body with
      | none => refine .inr (.inl ?_); unfold fnI; simp only [e, e1, e2]
      | some body =>
        cases e3 : (fn.name == "runtime.NumGoroutine") with
        | true => refine .inr (.inl ?_); unfold fnI; simp only [e, e1, e2, e3]
        | false => exact .inr (.inr ⟨fn, body, rfl, e2, e3, fnI_text e e1 e2 e3⟩)
theorem local_fnI (P : Program) {sp : Sp} (hs : SpOk P B sp) (f : FuncId) {call : Caller} (hl : ∀ t a, Local (call t a)) (args : List AV) : Local (fnI P sp f call args) := by
  rcases fnI_cases (P := P) sp f with ⟨m, e1, e2⟩ | e | ⟨fn, body, e1, e2, e3, e⟩
  · rw [e2]; exact hs.loc f m e1 call hl args
  · rw [e]; exact Local.fail
  · rw [e]; exact Local.kBodyI P _ _ _ _ hl _
theorem Local.rowM (F : Nat → Option (List AV)) (n o k : Nat) : Local (rowM F n o k) :=
  Local.withO fun _ _ => Local.withB fun _ => Local.pure _
theorem local_arunI (P : Program) {sp : Sp} (hs : SpOk P B sp) (F : Nat → Option (List AV)) : ∀ (n : Nat) (t : Tgt) (args : List AV), Local (arunI P sp F n t args)
  | 0, .fn _, _ => Local.fail
  | 0, .round _, _ => Local.fail
  | 0, .row n o k, _ => Local.rowM F n o k
  | n + 1, .fn f, args => local_fnI P hs f (fun t a => local_arunI P hs F n t a) args
  | n + 1, .round l, args => Local.runRoundI P (fun t a => local_arunI P hs F n t a) l args
  | _ + 1, .row n o k, _ => Local.rowM F n o k
theorem vrs_of {ρ : Ren} {c : Array Value} : ∀ {l : List AV} {off : Nat}, (∀ (i : Nat) (x : AV), l[i]? = some x → ∃ v, c[off + i]? = some v ∧ VR ρ x v) → ∃ vs : List Value, vs.length = l.length ∧ VRs ρ l vs ∧ ∀ (j : Nat) (v : Value), vs[j]? = some v → c[off + j]? = some v
  | [], off, _ => ⟨[], rfl, by simp only [VRs], fun j v h => by simp at h⟩
  | x :: l, off, h => by
    obtain ⟨v, h1, h2⟩ := h 0 x rfl
    obtain ⟨vs, g1, g2, g3⟩ := vrs_of (l := l) (off := off + 1) (fun i y hy => by
      obtain ⟨u, k1, k2⟩ := h (i + 1) y (by simpa using hy)
      exact ⟨u, by rw [Nat.add_assoc, Nat.add_comm 1 i]; exact k1, k2⟩)
    refine ⟨v :: vs, by simp [g1], by simp only [VRs]; exact ⟨v, vs, rfl, h2, g2⟩, fun j u hj => ?_⟩
    cases j with
    | zero => simp at hj; subst hj; simpa using h1
    | succ j =>
      have := g3 j u (by simpa using hj)
      rw [Nat.add_assoc, Nat.add_comm 1 j] at this; exact this
theorem rowM_inv {F : Nat → Option (List AV)} {n o k : Nat} {x : AV} (h : rowM F n o k s = .ok x s1) : s1 = s ∧ ∃ l, F n = some l ∧ o + k ≤ l.length ∧ x = .agg ((l.drop o).take k) := by
  unfold rowM at h
  obtain ⟨l, h1, h2⟩ := withO_inv h
  obtain ⟨h3, h4⟩ := withB_inv h2
  obtain ⟨rfl, rfl⟩ := pure_inv h4
  exact ⟨rfl, l, h1, ble_true.1 h3, rfl⟩
theorem rowM_sim {F : Nat → Option (List AV)} (hF : B.F = F) {n o k : Nat} {x : AV} (r : Rel B ρ s.h w) (h : rowM F n o k s = .ok x s1) :
    s1.h = s.h ∧ s1.nx = s.nx ∧ ∃ l b sh vs, x = .agg l ∧ vs.length = k ∧ ρ n = some (b, sh) ∧ VRs ρ l vs ∧ ∃ c e fr, w.heap[b]? = some (.cells c e fr) ∧ ∀ (j : Nat) (v : Value), vs[j]? = some v → c[sh + o + j]? = some v := by
  obtain ⟨rfl, l, h1, h2, rfl⟩ := rowM_inv h
  rw [← hF] at h1
  obtain ⟨_, b, sh, c, e, fr, g1, g2, _, g4⟩ := r.fz n l h1
  obtain ⟨vs, q1, q2, q3⟩ := vrs_of (ρ := ρ) (c := c) (l := (l.drop o).take k) (off := sh + o) (fun i y hy => by
    have hy' : l[o + i]? = some y := by
      rw [List.getElem?_take] at hy
      split at hy
      · rw [List.getElem?_drop] at hy; exact hy
      · cases hy
    obtain ⟨v, k1, k2, _⟩ := g4 (o + i) y hy'
    exact ⟨v, by rw [Nat.add_assoc]; exact k1, VR.mono (hiF_le B.F ρ) _ _ k2⟩)
  refine ⟨rfl, rfl, _, b, sh, vs, rfl, ?_, g1, q2, c, e, fr, g2, q3⟩
  rw [q1, List.length_take, List.length_drop]; omega
theorem leaveM_sim (hmix : P.follows .mixedOrders = true) (hc : CallSim P B call) (hl : ∀ t a, Local (call t a)) {af : AF} {x : Stp} (hfr : Fr ρ af b a) (hat : At B ρ s af.nt af.tmps w a) (hf : Free s.nx s1.nx ρ)
    (h : leaveM P call af s = .ok x s1) : Went P B ρ s s1 w af b cs (lone (b.atR a af.todo) cs w) x := by
  obtain ⟨k, fr1, j, rfl, h1⟩ := leaveM_inv h
  exact arow_sim hmix hc hl k hfr hat hf h1
theorem bodyI_sim (hmix : P.follows .mixedOrders = true) (hc : CallSim P B call) (hl : ∀ t a, Local (call t a)) {f : FuncId} {fn : Func} {body : Code} {args : List AV} {vs : Array Value} {x : AV} (hfn : P.funcs[f]? = some fn) (hbody : fn.body = some body) (hname : (fn.name == "runtime.NumGoroutine") = false) (hok : CodeOk body)
    (fi : Fine s) (r : Rel B ρ s.h w) (hg : RenG ρ) (hf : Free s.nx s1.nx ρ) (h : kBodyI P f fn.ntmps fn.results.toList body call args s = .ok x s1) (hv : VRs ρ args vs.toList) : Back P ((callFunc f vs).run P w) (Came B ρ s s1 w x) := by
  have hcall : (callFunc f vs).run P w = .ok (.enter f vs) w := by
    have hprog : (program).run P w = .ok P w := rfl
    have hn : fn.name ≠ "runtime.NumGoroutine" := by simpa using hname
    simp only [callFunc, Sem.run_bind, hprog, Result.andThen_ok, hfn, hname, hbody]
    simp
  rw [hcall]
  unfold kBodyI at h
  obtain ⟨h1, h2⟩ := withB_inv h
  have hmax := ble_true.1 h1
  obtain ⟨y, s2, h3, h4⟩ := M.bind_inv h2
  cases y with
  | go fr => cases h4
  | leave fr j =>
    have h4' : finish P fn.results.toList fr j s2 = .ok x s1 := h4
    have fi2 := (Local.leaveM P hl ⟨f, fillArgs args, max fn.ntmps args.length, [.code body], [], none⟩).fine fi h3
    have le4 := (Local.finish P fn.results.toList fr j).le fi2 h4'
    exact calls_of_went hfn hbody fi2 (fun cs => leaveM_sim (b := { (default : Frame) with fn := f, kind := .normal, roundOf := none }) (a := { tmps := vs ++ Array.replicate (fn.ntmps - vs.size) undef, defers := [] })
      hmix hc hl ⟨rfl, rfl, trivial, rfl, .cons hok .nil⟩ ⟨fillArgs_sim hv _ hmax, r, hg, hmax, fi⟩ (hf.sub (Nat.le_refl _) le4) h3) h4'
theorem roundI_sim (hmix : P.follows .mixedOrders = true) (hc : CallSim P B call) (hl : ∀ t a, Local (call t a)) {l bl N : Nat} {args : List AV} {vs : Array Value} {x : AV} (fi : Fine s) (r : Rel B ρ s.h w) (hg : RenG ρ) (hf : Free s.nx s1.nx ρ)
    (h : runRoundI P call l args s = .ok x s1) (hv : VRs ρ args vs.toList) (hlb : ρ l = some (bl, N)) : Back P ((Instr.yield bl vs).run P w) (Came B ρ s s1 w x) := by
  unfold runRoundI at h
  obtain ⟨o, s2, h1, h2⟩ := M.bind_inv h
  obtain ⟨h3, st, pend, fn, t, nt, ps, aa, bb, d, rfl⟩ := getLoop_inv h1
  obtain ⟨h4, h5⟩ := withB_inv h2
  obtain ⟨y, s3, h6, h7⟩ := M.bind_inv h5
  obtain ⟨q1, q2⟩ := and_true.1 h4
  have hlen := beqN_true.1 q1
  have hps : ∀ p ∈ ps, p < nt := fun p hp => by have := List.all_eq_true.1 q2 p hp; rw [← blt_eq]; exact this
  obtain ⟨hx, hget, hh, hnx⟩ := rdN_same h3
  have fi2 : Fine s2 := (Local.rdN _).fine fi h3
  have hlt : l < top := Nat.lt_of_lt_of_le hx fi.nx
  obtain ⟨o', hb, hO, hB⟩ := r.block hlt hget hlb
  obtain ⟨ta, db, M, rfl, htr, hnt, hd, hlo⟩ := hO
  have hyield : (Instr.yield bl vs).run P w = .ok (.round bl fn ((ps.zip vs.toList).foldl (fun tmps (t, a) => tmps.setIfInBounds t a) ta) aa bb) w := by
    have hsz : ¬ (vs.size ≠ ps.toArray.size) := by
      have := hv.length
      simp at this ⊢; omega
    simp only [Instr.yield, Sem.run_bind, run_getLoopObj hb, Result.andThen_ok, if_neg hsz, Sem.run_pure]
    rw [← Array.foldl_toList]
    simp
  rw [hyield]
  intro c cs
  cases y with
  | go fr => cases h7
  | leave fr j =>
    have h7' : endRound l j s3 = .ok x s1 := h7
    let b : Frame := { (default : Frame) with fn := fn, kind := .normal, roundOf := some bl }
    let a : Act := { tmps := (ps.zip vs.toList).foldl (fun tmps (t, a) => tmps.setIfInBounds t a) ta, defers := [] }
    have fi3 := (Local.leaveM P hl ⟨fn, setParams ps args t, nt, [.code aa, .beginRound, .code bb], [], some l⟩).fine fi2 h6
    have le3 := (Local.endRound l j).le fi3 h7'
    have hfr : Fr ρ ⟨fn, setParams ps args t, nt, [.code aa, .beginRound, .code bb], [], some l⟩ b a := ⟨rfl, rfl, ⟨N, hlb⟩, rfl, .cons hlo.assign (.cons trivial (.cons hlo.body .nil))⟩
    have hat : At B ρ s2 nt (setParams ps args t) w a := ⟨setParams_sim hnt htr hv hps, by rw [hh]; exact r, hg, hnt, fi2⟩
    obtain ⟨σ, a', w', e1, e2, e3, e4, _, _, e6, e7⟩ := leaveM_sim (cs := c :: cs) hmix hc hl hfr hat (by rw [hnx]; exact hf.sub (Nat.le_refl _) le3) h6
    have e6' : Leaves j fr.todo := e6
    obtain ⟨f1, rfl, w'', f2, f3, f4⟩ := endRound_sim (P := P) fi3 e2.rel (e1.le _ _ hlb) e6'.code h7'
    refine ⟨.bool j.isNone, w'', ⟨σ, by rw [f1, ← hnx]; exact e1, by simp only [VR], f3, e4.trans f4⟩, ?_⟩
    have hstart : Frame.round bl fn ((ps.zip vs.toList).foldl (fun tmps (t, a) => tmps.setIfInBounds t a) ta) aa bb .normal = b.atR a [.code aa, .beginRound, .code bb] := rfl
    rw [hstart]
    refine Steps.trans e7 (.one ?_)
    show step P (lone (b.atR a' fr.todo) (c :: cs) w') = _
    unfold Leaves at e6'
    split at e6'
    · rw [e6']; exact stepR_round_end rfl rfl f2
    · obtain ⟨k, e⟩ := e6'; rw [e]; exact stepR_round_ret rfl rfl f2
    · obtain ⟨k, e, e'⟩ := e6'; rw [e]; exact stepR_round_exit rfl rfl e' f2
    · obtain ⟨k, e, e'⟩ := e6'; rw [e]; exact stepR_round_goto rfl rfl e' f2
    · cases e6'
theorem arunI_sim (hP : ProgOk P) {sp : Sp} (hs : SpOk P B sp) {F : Nat → Option (List AV)} (hF : B.F = F) : ∀ (n : Nat), CallSim P B (arunI P sp F n)
  | 0 => ⟨(fun f args x s s1 ρ w vs _ _ _ _ h _ => by cases h), (fun l b N args x s s1 ρ w vs _ _ _ _ h _ _ => by cases h), (fun n o k x s s1 ρ w _ r h => rowM_sim hF r h)⟩
  | n + 1 => by
    have ih := arunI_sim hP hs hF n
    refine ⟨fun f args x s s1 ρ w vs fi r hg hf h hv => ?_, fun l b N args x s s1 ρ w vs fi r hg hf h hv hl => roundI_sim hP.mixed ih (local_arunI P hs F n) fi r hg hf h hv hl, (fun n o k x s s1 ρ w _ r h => rowM_sim hF r h)⟩
    have h' : fnI P sp f (arunI P sp F n) args s = .ok x s1 := h
    rcases fnI_cases (P := P) sp f with ⟨m, e1, e2⟩ | e | ⟨fn, body, e1, e2, e3, e⟩
    · rw [e2] at h'; exact hs.sim f m e1 _ ih (local_arunI P hs F n) args x s s1 ρ w vs fi r hg hf h' hv
    · rw [e] at h'; cases h'
    · rw [e] at h'; exact bodyI_sim hP.mixed ih (local_arunI P hs F n) e1 e2 e3 (hP.code f fn body e1 e2) fi r hg hf h' hv
end
end Go.Rn

namespace Go.Rn
open Go.RowKit
def VEnt (r : Nat → Nat) (x y : AV) : Prop := ∀ (ρ : Ren) (v : Value), VR ρ x v → VR (fun k => ρ (r k)) y v
def OEnt (r : Nat → Nat) (x y : AObj) : Prop := ∀ (ρ : Ren) (N : Nat) (o : Obj), OR ρ N x o → OR (fun k => ρ (r k)) N y o
def Sim (P : Program) (B : Base) (nx0 : Nat) (Q : Tr AV → List Nat → Option Code → AS → Prop) (fr : AF) (s : AS) : Prop :=
  ∀ (ρ : Ren) (w : World) (b : Frame) (a : Act) (cs : List Frame), Fr ρ fr b a → At B ρ s fr.nt fr.tmps w a → (∀ k, s.nx ≤ k → k < top → ρ k = none) →
    ∃ (fr1 : AF) (j : Option Code) (s1 : AS) (σ : Ren) (a' : Act) (w' : World), Q fr1.tmps fr1.defers j s1 ∧ nx0 ≤ s1.nx ∧ (∀ k, k < nx0 ∨ top ≤ k → σ k = ρ k) ∧ (∀ k, s1.nx ≤ k → k < top → σ k = none) ∧ At B σ s1 fr.nt fr1.tmps w' a' ∧ DefR σ fr1.defers a'.defers ∧ Bel B w w' ∧
      (fr1.fn = fr.fn ∧ fr1.nt = fr.nt ∧ fr1.round = fr.round) ∧ ItemsOk fr1.todo ∧ Leaves j fr1.todo ∧ Steps P (lone (b.atR a fr.todo) cs w) (lone (b.atR a' fr1.todo) cs w')
section
variable {P : Program} {B : Base} {nx0 : Nat} {Q : Tr AV → List Nat → Option Code → AS → Prop} {ρ : Ren} {w : World} {s s1 s2 : AS} {call : Caller} {fr fr1 : AF} {j : Option Code}
theorem Sim.chunk (hmix : P.follows .mixedOrders = true) (hc : CallSim P B call) (hl : ∀ t a, Local (call t a)) {k : Nat} (h : arow P call k fr s = .ok (.go fr1) s1) (h0 : nx0 ≤ s.nx) (H : Sim P B nx0 Q fr1 s1) : Sim P B nx0 Q fr s := by
  intro ρ w b a cs hfr hat hf
  have le1 := (Local.arow P hl k fr).le hat.fine h
  have fi1 := ((Local.arow P hl k fr).fine hat.fine h).nx
  obtain ⟨σ, a1, w1, e1, e2, e3, e4, ⟨e5, e6, e7⟩, e8, _, e9⟩ := arow_sim (b := b) (cs := cs) hmix hc hl k hfr hat (fun k h1 h2 => hf k h1 (by omega)) h
  have e5' : fr1.fn = fr.fn := e5
  have e6' : fr1.nt = fr.nt := e6
  have e7' : fr1.round = fr.round := e7
  obtain ⟨fr2, j, s2, τ, a2, w2, q0, qn, q1, q2, q3, q4, q5, ⟨q6, q7, q8⟩, q9, q10, q11⟩ := H σ w1 b a1 cs ⟨hfr.fn.trans e5'.symm, hfr.kind, by rw [e7']; exact hfr.round.mono e1.le, e3, e8⟩ (by rw [e6']; exact e2) (fun k hk ht => (e1.out k (by omega)).trans (hf k (by omega) ht))
  exact ⟨fr2, j, s2, τ, a2, w2, q0, qn, fun k hk => (q1 k hk).trans (e1.out k (by omega)), q2, by rw [← e6']; exact q3, q4, e4.trans q5, ⟨q6.trans e5', q7.trans e6', q8.trans e7'⟩, q9, q10, Steps.trans e9 q11⟩
theorem Sim.leave (hmix : P.follows .mixedOrders = true) (hc : CallSim P B call) (hl : ∀ t a, Local (call t a)) {k : Nat} (h : arow P call k fr s = .ok (.leave fr1 j) s1) (h0 : nx0 ≤ s.nx) (hq : Q fr1.tmps fr1.defers j s1) : Sim P B nx0 Q fr s := by
  intro ρ w b a cs hfr hat hf
  have le1 := (Local.arow P hl k fr).le hat.fine h
  have fi1 := ((Local.arow P hl k fr).fine hat.fine h).nx
  obtain ⟨σ, a1, w1, e1, e2, e3, e4, ⟨e5, e6, e7⟩, e8, e10, e9⟩ := arow_sim (b := b) (cs := cs) hmix hc hl k hfr hat (fun k h1 h2 => hf k h1 (by omega)) h
  exact ⟨fr1, j, s1, σ, a1, w1, hq, Nat.le_trans h0 le1, fun k hk => e1.out k (by omega), fun k hk ht => (e1.out k (by omega)).trans (hf k (by omega) ht), e2, e3, e4, ⟨e5, e6, e7⟩, e8, e10, e9⟩
theorem Rel.ents {B : Base} {ρ : Ren} {h h2 : Tr AObj} {w : World} {r : Nat → Nat} (R : Rel B ρ h w) (hrt : ∀ k, top ≤ k → r k = k)
    (hh : ∀ n o2, n < top → h2.get n = some o2 → r n < top ∧ o2.plain = true ∧ ∃ o1, h.get (r n) = some o1 ∧ (o2.isRo = false → o1.isRo = false) ∧ OEnt r o1 o2)
    (hinj : ∀ n m o p, n < top → m < top → h2.get n = some o → h2.get m = some p → (o.isRo = false ∨ p.isRo = false) → r n = r m → n = m) : Rel B (fun k => ρ (r k)) h2 w := by
  refine ⟨fun n o hn hg => ?_, fun n m o p b N M hn hm hg hg' hor e1 e2 => ?_, fun n m es ex left cur hn hg => ?_, R.size, fun i j m es ex left cur es' ex' left' cur' hi _ hg _ => ?_, fun n l e => ?_⟩
  · obtain ⟨a1, _, o1, a3, a4, a5⟩ := hh n o hn hg
    obtain ⟨b, N, o', b1, b2, b3, b4⟩ := R.is (r n) o1 a1 a3
    exact ⟨b, N, o', b1, b2, a5 ρ N o' b3, fun q => b4 (a4 q)⟩
  · obtain ⟨a1, _, o1, a3, a4, _⟩ := hh n o hn hg
    obtain ⟨c1, _, p1, c3, c4, _⟩ := hh m p hm hg'
    exact hinj n m o p hn hm hg hg' hor (R.one (r n) (r m) o1 p1 b N M a1 c1 a3 c3 (hor.imp a4 c4) e1 e2)
  · have := (hh n _ hn hg).2.1; simp [AObj.plain] at this
  · have := (hh i _ hi hg).2.1; simp [AObj.plain] at this
  · obtain ⟨h1, b, sh, c, e', fr, g2, g3, g4, g5⟩ := R.fz n l e
    have hhi : hiF B.F (fun k => ρ (r k)) = hiF B.F ρ := by
      funext k
      unfold hiF
      cases hk : B.F k with
      | none => rfl
      | some l' =>
        show (if true = true then ρ (r k) else none) = if true = true then ρ k else none
        rw [hrt k (R.fz k l' hk).1]
    refine ⟨h1, b, sh, c, e', fr, by show ρ (r n) = _; rw [hrt n h1]; exact g2, g3, fun m o N hm hg hro hr => ?_, by rw [hhi]; exact g5⟩
    obtain ⟨a1, _, o1, a3, a4, _⟩ := hh m o hm hg
    exact g4 (r m) o1 N a1 a3 (a4 hro) hr
theorem Sim.weaken {t2 : Tr AV} (r : Nat → Nat) (h0 : ∀ k, k < nx0 → r k = k) (h1 : ∀ k, s2.nx ≤ k → k < top → s.nx ≤ r k ∧ r k < top) (hrt : ∀ k, top ≤ k → r k = k) (hg : globs ≤ nx0) (hf2 : Fine s2) (hd : fr.defers = []) (hr : fr.round = none)
    (ht : ∀ i y, t2.get i = some y → ∃ x, fr.tmps.get i = some x ∧ VEnt r x y)
    (hh : ∀ n o2, n < top → s2.h.get n = some o2 → r n < top ∧ o2.plain = true ∧ ∃ o1, s.h.get (r n) = some o1 ∧ (o2.isRo = false → o1.isRo = false) ∧ OEnt r o1 o2)
    (hinj : ∀ n m o p, n < top → m < top → s2.h.get n = some o → s2.h.get m = some p → (o.isRo = false ∨ p.isRo = false) → r n = r m → n = m)
    (H : Sim P B nx0 Q { fr with tmps := t2 } s2) : Sim P B nx0 Q fr s := by
  intro ρ w b a cs hfr hat hf
  have hround : RoundR (fun k => ρ (r k)) fr.round b.roundOf := by
    have := hfr.round
    rw [hr] at this ⊢
    cases hb : b.roundOf with
    | none => trivial
    | some l => rw [hb] at this; cases this
  have hdefs : DefR (fun k => ρ (r k)) fr.defers a.defers := by
    have := hfr.defs
    rw [hd] at this ⊢
    exact this
  have hglob : RenG (fun k => ρ (r k)) := fun g hgl => by
    obtain ⟨N, e⟩ := hat.g g hgl
    exact ⟨N, by show ρ (r g) = _; rw [h0 g (Nat.lt_of_lt_of_le hgl hg)]; exact e⟩
  have htr : TR (fun k => ρ (r k)) fr.nt t2 a.tmps := ⟨hat.tr.1, fun i y hy => by
    obtain ⟨x, e1, e2⟩ := ht i y hy
    exact e2 ρ _ (hat.tr.2 i x e1)⟩
  obtain ⟨fr2, j, s3, τ, a2, w2, q0, qn, q1, q2, q3, q4, q5, q6, q7, q8, q9⟩ := H (fun k => ρ (r k)) w b a cs
    ⟨hfr.fn, hfr.kind, hround, hdefs, hfr.ok⟩ ⟨htr, hat.rel.ents hrt hh hinj, hglob, hat.nt, hf2⟩ (fun k hk ht => hf _ (h1 k hk ht).1 (h1 k hk ht).2)
  exact ⟨fr2, j, s3, τ, a2, w2, q0, qn, fun k hk => (q1 k hk).trans (by show ρ (r k) = ρ k; rcases hk with hk | hk; exact congrArg ρ (h0 k hk); exact congrArg ρ (hrt k hk)), q2, q3, q4, q5, q6, q7, q8, q9⟩
end
end Go.Rn

namespace Go.Rn
open Go.RowKit
noncomputable section
def trOf : List (Nat × AV) → Tr AV
  | [] => .nil
  | p :: l => (trOf l).put p.1 (some p.2)
def hpOf : List (Nat × Option AObj) → Tr AObj
  | [] => .nil
  | p :: l => (hpOf l).put p.1 p.2
def stOf (l : List (Nat × Option AObj)) (nx : Nat) : AS := ⟨hpOf l, nx, 0, [], []⟩
def bodyOf (P : Program) (f : FuncId) : Code :=
  match P.funcs[f]? with
  | none => .skip
  | some fn => match fn.body with
    | none => .skip
    | some c => c
def cAt (P : Program) (f : FuncId) (p : List Nat) : Code := subCode p (bodyOf P f)
def opsOf : Code → Array Oper
  | .region _ ops _ => ops
  | _ => #[]
def runOps (P : Program) (call : Caller) (nt : Nat) (ops : Array Oper) (i n : Nat) (t : Tr AV) : M (Tr AV) := aops P call nt ops ((ops.toList.drop i).take n) t
def opIs (ops : Array Oper) (i : Nat) : Option (Op × Option Tmp × Option (Nat × Bool)) :=
  match ops[i]? with
  | none => none
  | some o => some (o.op, o.dst, o.guard)
end
section
variable {P : Program} {B : Base} {nx0 : Nat} {Q : Tr AV → List Nat → Option Code → AS → Prop} {ρ : Ren} {w : World} {s s1 s2 : AS} {call : Caller} {t t1 t2 : Tr AV} {ops : Array Oper} {nt : Nat}
theorem aops_cons {o : Oper} {l : List Oper} : aops P call nt ops (o :: l) t = (aone P call nt ops o t).bind (aops P call nt ops l) := rfl
theorem aops_app : ∀ {l1 l2 : List Oper} {t t1 : Tr AV} {s s1 : AS}, aops P call nt ops l1 t s = .ok t1 s1 → aops P call nt ops (l1 ++ l2) t s = aops P call nt ops l2 t1 s1
  | [], l2, t, t1, s, s1, h => by cases h; rfl
  | o :: l1, l2, t, t1, s, s1, h => by
    rw [aops_cons] at h
    obtain ⟨t', s', h1, h2⟩ := M.bind_inv h
    show aops P call nt ops (o :: (l1 ++ l2)) t s = _
    rw [aops_cons, M.bind_ok h1]
    exact aops_app h2
theorem runOps_add {i n m : Nat} (h1 : runOps P call nt ops i n t s = .ok t1 s1) (h2 : runOps P call nt ops (i + n) m t1 s1 = .ok t2 s2) : runOps P call nt ops i (n + m) t s = .ok t2 s2 := by
  unfold runOps at h1 h2 ⊢
  rw [List.take_add, aops_app h1, List.drop_drop]
  exact h2
theorem runOps_one {i : Nat} {o : Oper} (ho : ops[i]? = some o) (h : aone P call nt ops o t s = .ok t1 s1) : runOps P call nt ops i 1 t s = .ok t1 s1 := by
  unfold runOps
  have : (ops.toList.drop i).take 1 = [o] := by
    have h1 : ops.toList[i]? = some o := by rw [Array.getElem?_toList]; exact ho
    obtain ⟨hi, e⟩ := List.getElem?_eq_some_iff.1 h1
    rw [List.drop_eq_getElem_cons hi, e]; rfl
  rw [this, aops_cons, M.bind_ok h]
  rfl
theorem opIs_inv {i : Nat} {op : Op} {d : Option Tmp} {g : Option (Nat × Bool)} (h : opIs ops i = some (op, d, g)) : ∃ o, ops[i]? = some o ∧ o.op = op ∧ o.dst = d ∧ o.guard = g := by
  unfold opIs at h
  split at h
  · cases h
  · rename_i o e
    injection h with h
    injection h with h1 h
    injection h with h2 h3
    exact ⟨o, e, h1, h2, h3⟩
theorem op1 {i : Nat} {op : Op} {d : Option Tmp} {v : AV} (ho : opIs ops i = some (op, d, none)) (h : (opB P op).val call t s = .ok v s1) (hp : aput nt t d v = some t1) : runOps P call nt ops i 1 t s = .ok t1 s1 := by
  obtain ⟨o, e, rfl, rfl, e3⟩ := opIs_inv ho
  refine runOps_one e ?_
  unfold aone slotB
  rw [e3]
  show kOp (opB P o.op) o.dst call nt t s = _
  unfold kOp
  rw [M.bind_ok h, hp]
  rfl
theorem op1w {i : Nat} {op : Op} {d : Option Tmp} {g : Nat × Bool} {v : AV} (ho : opIs ops i = some (op, d, some g)) (hk : aknown ops t g.1 = true) (hw : awanted ops g t = true) (h : (opB P op).val call t s = .ok v s1) (hp : aput nt t d v = some t1) : runOps P call nt ops i 1 t s = .ok t1 s1 := by
  obtain ⟨o, e, rfl, rfl, e3⟩ := opIs_inv ho
  refine runOps_one e ?_
  unfold aone slotB
  rw [e3]
  show kOpIf ops g (opB P o.op) o.dst call nt t s = _
  unfold kOpIf
  rw [hk, hw, withB_true]
  show ((opB P o.op).val call t).bind (fun v => lift (aput nt t o.dst v)) s = _
  rw [M.bind_ok h, hp]
  rfl
def ElF (F : Nat → Option (List AV)) (nm o : Nat) (c : List AV) : Prop := ∃ row, F nm = some row ∧ o + c.length ≤ row.length ∧ (row.drop o).take c.length = c
def SlF (F : Nat → Option (List AV)) (a : AV) (K : Nat) (l : List (List AV)) : Prop :=
  (∀ c ∈ l, c.length = K) ∧ ((a = .slice none 0 (.known 0) ∧ l = []) ∨ ∃ nm o row, a = .rslice nm o l.length ∧ top ≤ nm ∧ F nm = some row ∧ o + l.length * K ≤ row.length ∧ (row.drop o).take (l.length * K) = l.flatten)
theorem flatten_at : ∀ {l : List (List AV)} {K i : Nat} {c : List AV}, (∀ c ∈ l, c.length = K) → l[i]? = some c → (l.flatten.drop (i * K)).take K = c
  | [], _, _, _, _, h => by simp at h
  | x :: l, K, 0, c, hl, h => by
    simp at h; subst h
    have hx := hl x List.mem_cons_self
    rw [Nat.zero_mul, List.drop_zero, List.flatten_cons, List.take_append, hx, Nat.sub_self, List.take_zero, List.append_nil, ← hx, List.take_length]
  | x :: l, K, i + 1, c, hl, h => by
    have hx := hl x List.mem_cons_self
    rw [List.flatten_cons, List.drop_append, hx, show (i + 1) * K - K = i * K by rw [Nat.add_mul, Nat.one_mul]; omega, List.drop_eq_nil_of_le (by rw [hx, Nat.add_mul, Nat.one_mul]; omega), List.nil_append]
    exact flatten_at (fun c hc => hl c (List.mem_cons_of_mem _ hc)) (by simpa using h)
theorem SlF.at_ {F : Nat → Option (List AV)} {a : AV} {K : Nat} {l : List (List AV)} (h : SlF F a K l) {i : Nat} {c : List AV} (hc : l[i]? = some c) :
    ∃ nm o, a = .rslice nm o l.length ∧ top ≤ nm ∧ ElF F nm (o + i * K) c := by
  obtain ⟨hl, h | ⟨nm, o, row, rfl, h2, h3, h4, h5⟩⟩ := h
  · rw [h.2] at hc; simp at hc
  · have hi := (List.getElem?_eq_some_iff.1 hc).1
    have hlen := hl c (List.mem_of_getElem? hc)
    have hm : (i + 1) * K ≤ l.length * K := Nat.mul_le_mul_right _ hi
    rw [Nat.add_mul, Nat.one_mul] at hm
    refine ⟨nm, o, rfl, h2, row, h3, by rw [hlen]; omega, ?_⟩
    have := flatten_at hl hc
    rw [← h5, List.drop_take, List.drop_drop, List.take_take, Nat.min_eq_left (by omega)] at this
    rw [hlen]; exact this
theorem row_at {sp : Sp} {F : Nat → Option (List AV)} {nm o : Nat} {c : List AV} (h : ElF F nm o c) : ∀ (n : Nat) (a : List AV), arunI P sp F n (.row nm o c.length) a s = .ok (.agg c) s := by
  obtain ⟨row, h1, h2, h3⟩ := h
  have : rowM F nm o c.length s = .ok (.agg c) s := by
    unfold rowM
    rw [h1, withO_some, ble_true.2 h2, withB_true, h3]
    rfl
  intro n a
  cases n <;> exact this
theorem ElF.cell {F : Nat → Option (List AV)} {nm o j : Nat} {c : List AV} {x : AV} (h : ElF F nm o c) (hx : c[j]? = some x) : ElF F nm (o + j) [x] := by
  obtain ⟨row, h1, h2, h3⟩ := h
  have hj := (List.getElem?_eq_some_iff.1 hx).1
  refine ⟨row, h1, by simp only [List.length_singleton]; omega, ?_⟩
  have : (row.drop (o + j))[0]? = some x := by
    rw [List.getElem?_drop, Nat.add_zero]
    have h4 : ((row.drop o).take c.length)[j]? = some x := by rw [h3]; exact hx
    rw [List.getElem?_take, if_pos hj, List.getElem?_drop] at h4
    exact h4
  cases hd : row.drop (o + j) with
  | nil => rw [hd] at this; simp at this
  | cons y r => rw [hd] at this; simp at this; subst this; simp
theorem op_load {sp : Sp} {F : Nat → Option (List AV)} {n : Nat} {ty : TypeId} {a : Operand} {nm o : Nat} {c : List AV} (ha : opd t a = some (.rptr nm o)) (hn : top ≤ nm) (h : ElF F nm o c) (hg : aggT P ty = some true) (hk : sizeT P ty = some c.length) :
    (opB P (.load ty a)).val (arunI P sp F n) t s = .ok (.agg c) s := by
  show kLoad P ty a (arunI P sp F n) t s = _
  unfold kLoad
  rw [ha, withO_some]
  unfold loadAt
  simp only [ble_true.2 hn]
  unfold loadFz
  rw [hg, withO_some, hk, withO_some]
  show ((arunI P sp F n (.row nm o c.length) []).bind _) s = _
  rw [M.bind_ok (row_at h n [])]
  rfl
theorem op_load1 {sp : Sp} {F : Nat → Option (List AV)} {n : Nat} {ty : TypeId} {a : Operand} {nm o k : Nat} {x : AV} (ha : opd t a = some (.rptr nm o)) (hn : top ≤ nm) (h : ElF F nm o [x]) (hg : aggT P ty = some false) (hk : sizeT P ty = some k) :
    (opB P (.load ty a)).val (arunI P sp F n) t s = .ok x s := by
  show kLoad P ty a (arunI P sp F n) t s = _
  unfold kLoad
  rw [ha, withO_some]
  unfold loadAt
  simp only [ble_true.2 hn]
  unfold loadFz
  rw [hg, withO_some, hk, withO_some]
  show ((arunI P sp F n (.row nm o [x].length) []).bind _) s = _
  rw [M.bind_ok (row_at h n [])]
  rfl
theorem SlF.len {F : Nat → Option (List AV)} {a : AV} {K : Nat} {l : List (List AV)} (h : SlF F a K l) : (∃ b, a = .slice b l.length (.known 0)) ∨ ∃ nm o, a = .rslice nm o l.length := by
  obtain ⟨_, ⟨rfl, rfl⟩ | ⟨nm, o, row, rfl, _⟩⟩ := h
  · exact .inl ⟨none, rfl⟩
  · exact .inr ⟨nm, o, rfl⟩
end
end Go.Rn
namespace Go.Rn
open Go.RowKit
section
variable {P : Program} {s s1 : AS} {call : Caller} {t : Tr AV}
def SlT {α : Type} (F : Nat → Option (List AV)) (a : AV) (K : Nat) (enc : α → List AV) (l : List α) : Prop := SlF F a K (l.map enc)
theorem bin_cmp {op : BinOp} {ty yt : TypeId} {x y : Operand} {k : IntKind} {a b : Int} {r : Bool} (hx : opd t x = some (.int k a)) (hy : opd t y = some (.int k b)) (hs : isShift op = false) (hg : guardOk P op ty x y (.int k a) (.int k b) = true) (hr : intOp op k a b = some (.bool r)) :
    (opB P (.binOp op ty x y yt)).val call t s = .ok (.bool r) s := by
  show kBin P op ty x y call t s = _
  unfold kBin
  rw [hx, hy, withO_some, withO_some, hg, withB_true]
  have : binOpT P op ty (.int k a) (.int k b) = some (.bool r) := by
    unfold binOpT
    simp only [hs, decide_true]
    exact hr
  rw [this]
  rfl
end
end Go.Rn
namespace Go.Rn
open Go.RowKit
section
variable {P : Program} {B : Base} {nx0 : Nat} {Q : Tr AV → List Nat → Option Code → AS → Prop} {s s1 s2 : AS} {call : Caller} {t t1 t2 : Tr AV} {ops : Array Oper} {nt : Nat}
theorem bin_int {op : BinOp} {ty yt : TypeId} {x y : Operand} {k : IntKind} {a b : Int} {r : AV} (hx : opd t x = some (.int k a)) (hy : opd t y = some (.int k b)) (hs : isShift op = false) (hg : guardOk P op ty x y (.int k a) (.int k b) = true) (hr : intOp op k a b = some r) :
    (opB P (.binOp op ty x y yt)).val call t s = .ok r s := by
  show kBin P op ty x y call t s = _
  unfold kBin
  rw [hx, hy, withO_some, withO_some, hg, withB_true]
  have : binOpT P op ty (.int k a) (.int k b) = some r := by
    unfold binOpT
    simp only [hs, decide_true]
    exact hr
  rw [this]
  rfl
theorem op_add {ty yt : TypeId} {x y : Operand} {k : IntKind} {a b c : Int} (hx : opd t x = some (.int k a)) (hy : opd t y = some (.int k b)) (h : k.wrap (a + b) = c) : (opB P (.binOp .add ty x y yt)).val call t s = .ok (.int k c) s :=
  bin_int hx hy rfl rfl (by subst h; rfl)
noncomputable def runD (P : Program) (call : Caller) (nt : Nat) (ops : Array Oper) (i n : Nat) (t : Tr AV) : M (Tr AV × List Met) := aopsD P call nt ops ((ops.toList.drop i).take n) i t
theorem aopsD_app : ∀ {l1 l2 : List Oper} {i : Nat} {t t1 t2 : Tr AV} {m1 m2 : List Met} {s s1 s2 : AS}, aopsD P call nt ops l1 i t s = .ok (t1, m1) s1 → aopsD P call nt ops l2 (i + l1.length) t1 s1 = .ok (t2, m2) s2 → aopsD P call nt ops (l1 ++ l2) i t s = .ok (t2, m1 ++ m2) s2
  | [], l2, i, t, t1, t2, m1, m2, s, s1, s2, h, k => by cases h; exact k
  | o :: l1, l2, i, t, t1, t2, m1, m2, s, s1, s2, h, k => by
    have h' : ((alone i (aone P call nt ops o t)).bind fun x => (aopsD P call nt ops l1 (i + 1) x.1).bind fun y => M.pure (y.1, x.2 :: y.2)) s = .ok (t1, m1) s1 := h
    obtain ⟨x, sx, e1, e2⟩ := M.bind_inv h'
    obtain ⟨y, sy, e3, e4⟩ := M.bind_inv e2
    obtain ⟨e5, rfl⟩ := pure_inv e4
    injection e5 with e6 e7
    subst e6; subst e7
    have := aopsD_app (i := i + 1) e3 (by rw [show i + 1 + l1.length = i + (o :: l1).length by simp; omega]; exact k)
    show ((alone i (aone P call nt ops o t)).bind fun x => (aopsD P call nt ops (l1 ++ l2) (i + 1) x.1).bind fun y => M.pure (y.1, x.2 :: y.2)) s = _
    rw [M.bind_ok e1, M.bind_ok this]
    rfl
theorem runD_add {i n m N : Nat} {m1 m2 : List Met} (hN : ops.size = N) (hi : i + n ≤ N) (h1 : runD P call nt ops i n t s = .ok (t1, m1) s1) (h2 : runD P call nt ops (i + n) m t1 s1 = .ok (t2, m2) s2) : runD P call nt ops i (n + m) t s = .ok (t2, m1 ++ m2) s2 := by
  unfold runD at h1 h2 ⊢
  rw [List.take_add, List.drop_drop]
  refine aopsD_app h1 ?_
  rw [List.length_take, List.length_drop, Array.length_toList, hN, Nat.min_eq_left (by omega)]
  exact h2
theorem trOf_mem : ∀ {l : List (Nat × AV)} {i : Nat} {y : AV}, (∀ p ∈ l, p.1 < top) → (trOf l).get i = some y → (i, y) ∈ l
  | [], i, y, _, h => by
    have : (Tr.nil : Tr AV).get i = some y := h
    rw [Tr.get_nil] at this; cases this
  | p :: l, i, y, hl, h => by
    have h' : ((trOf l).put p.1 (some p.2)).get i = some y := h
    rw [Tr.get_put' _ _ _ _ (hl p List.mem_cons_self)] at h'
    by_cases e : i = p.1
    · rw [if_pos e] at h'; injection h' with h'; subst h'; subst e; exact List.mem_cons_self
    · rw [if_neg e] at h'; exact List.mem_cons_of_mem _ (trOf_mem (fun q hq => hl q (List.mem_cons_of_mem _ hq)) h')
theorem hpOf_mem : ∀ {l : List (Nat × Option AObj)} {i : Nat} {y : AObj}, (∀ p ∈ l, p.1 < top) → (hpOf l).get i = some y → (i, some y) ∈ l
  | [], i, y, _, h => by
    have : (Tr.nil : Tr AObj).get i = some y := h
    rw [Tr.get_nil] at this; cases this
  | p :: l, i, y, hl, h => by
    have h' : ((hpOf l).put p.1 p.2).get i = some y := h
    rw [Tr.get_put' _ _ _ _ (hl p List.mem_cons_self)] at h'
    by_cases e : i = p.1
    · rw [if_pos e] at h'
      have : p = (i, some y) := by rw [e, ← h']
      rw [← this]; exact List.mem_cons_self
    · rw [if_neg e] at h'; exact List.mem_cons_of_mem _ (hpOf_mem (fun q hq => hl q (List.mem_cons_of_mem _ hq)) h')
theorem VEnt.same (x : AV) : VEnt (fun k => k) x x := fun _ _ h => h
theorem OEnt.same (x : AObj) : OEnt (fun k => k) x x := fun _ _ _ h => h
def Slots (t : Tr AV) : List (Nat × AV) → Prop
  | [] => True
  | p :: l => t.get p.1 = some p.2 ∧ Slots t l
def Objs (h : Tr AObj) : List (Nat × Option AObj) → Prop
  | [] => True
  | p :: l => (h.get p.1 = p.2 ∧ ∀ o, p.2 = some o → o.plain = true) ∧ Objs h l
theorem Slots.mem {t : Tr AV} : ∀ {l : List (Nat × AV)}, Slots t l → ∀ p ∈ l, t.get p.1 = some p.2
  | [], _, p, hp => by cases hp
  | q :: l, h, p, hp => by
    rcases List.mem_cons.1 hp with rfl | hp
    · exact h.1
    · exact Slots.mem h.2 p hp
theorem Objs.mem {h : Tr AObj} : ∀ {l : List (Nat × Option AObj)}, Objs h l → ∀ p ∈ l, h.get p.1 = p.2 ∧ ∀ o, p.2 = some o → o.plain = true
  | [], _, p, hp => by cases hp
  | q :: l, k, p, hp => by
    rcases List.mem_cons.1 hp with rfl | hp
    · exact k.1
    · exact Objs.mem k.2 p hp
def lowP {α : Type} (n : Nat) : List (Nat × α) → Bool
  | [] => true
  | p :: l => Nat.blt p.1 n && lowP n l
theorem lowP_mem {α : Type} {n : Nat} : ∀ {l : List (Nat × α)}, lowP n l = true → ∀ p ∈ l, p.1 < n
  | [], _, p, hp => by cases hp
  | q :: l, h, p, hp => by
    obtain ⟨h1, h2⟩ := and_true.1 h
    rcases List.mem_cons.1 hp with rfl | hp
    · exact (blt_eq _ _).mp h1
    · exact lowP_mem h2 p hp
theorem Sim.less {f : FuncId} {K : List Item} {l : List (Nat × AV)} {o : List (Nat × Option AObj)} {nx : Nat} (hl : lowP top l = true) (ho : lowP top o = true) (hn : (Nat.ble s.nx nx && Nat.ble nx top) = true) (hg : globs ≤ nx0)
    (ht : Slots t l) (hh : Objs s.h o) (H : Sim P B nx0 Q ⟨f, trOf l, nt, K, [], none⟩ (stOf o nx)) : Sim P B nx0 Q ⟨f, t, nt, K, [], none⟩ s := by
  obtain ⟨hn1, hn2⟩ := and_true.1 hn
  have hn1 := ble_true.1 hn1
  have hn2 := ble_true.1 hn2
  refine Sim.weaken (s2 := stOf o nx) (t2 := trOf l) (fun k => k) (fun _ _ => rfl) (fun k hk ht => ⟨Nat.le_trans hn1 hk, ht⟩) (fun _ _ => rfl) hg ⟨Nat.zero_le _, hn2⟩ rfl rfl (fun i y hy => ?_) (fun n o2 hn hg => ?_) (fun n m _ _ _ _ _ _ _ e => e) H
  · have := trOf_mem (fun p hp => lowP_mem hl p hp) hy
    exact ⟨y, ht.mem _ this, VEnt.same y⟩
  · have := hpOf_mem (fun p hp => lowP_mem ho p hp) hg
    obtain ⟨h1, h2⟩ := hh.mem _ this
    exact ⟨hn, h2 o2 rfl, o2, h1, id, OEnt.same o2⟩
end
end Go.Rn

namespace Go.Rn
open Go.RowKit
noncomputable section
def Fin (P : Program) (rs : List ResultVar) (R : AV → AS → Prop) : Tr AV → List Nat → Option Code → AS → Prop :=
  fun t d j s => ∃ x s3, finish P rs ⟨0, t, 0, [], d, none⟩ j s = .ok x s3 ∧ R x s3
end
section
variable {P : Program} {B : Base} {ρ : Ren} {w : World} {s s1 : AS} {call : Caller}
theorem finish_fr (rs : List ResultVar) (fr : AF) (j : Option Code) : finish P rs fr j = finish P rs ⟨0, fr.tmps, 0, [], fr.defers, none⟩ j := rfl
theorem Sim.calls (hP : ProgOk P) {g : FuncId} {fn : Func} {body : Code} {args : List AV} {vs : Array Value} {R : AV → AS → Prop} (hfn : P.funcs[g]? = some fn) (hbody : fn.body = some body) (hmax : max fn.ntmps args.length ≤ top)
    (H : Sim P B s.nx (Fin P fn.results.toList R) ⟨g, fillArgs args, max fn.ntmps args.length, [.code body], [], none⟩ s) (fi : Fine s) (r : Rel B ρ s.h w) (hg : RenG ρ) (hf : ∀ k, s.nx ≤ k → k < top → ρ k = none) (hv : VRs ρ args vs.toList) :
    Calls P g vs w fun e w' => ∃ v x s3, e = .returned v ∧ R x s3 ∧ s.nx ≤ s3.nx ∧ Fine s3 ∧ Came B ρ s s3 w x v w' := by
  intro cs
  let b : Frame := { (default : Frame) with fn := g, kind := .normal, roundOf := none }
  let a : Act := { tmps := vs ++ Array.replicate (fn.ntmps - vs.size) undef, defers := [] }
  have hstart : Frame.enter P g vs .normal = b.atR a [.code body] := by simp [Frame.enter, Frame.atR, hfn, hbody, b, a]
  have hfr : Fr ρ ⟨g, fillArgs args, max fn.ntmps args.length, [.code body], [], none⟩ b a := ⟨rfl, rfl, trivial, rfl, .cons (hP.code g fn body hfn hbody) .nil⟩
  have hat : At B ρ s (max fn.ntmps args.length) (fillArgs args) w a := ⟨fillArgs_sim hv _ hmax, r, hg, hmax, fi⟩
  obtain ⟨fr, j, s2, σ, a', w', ⟨x, s3, hfin, hR⟩, en, e0, e1, e2, e3, e4, e5, e6, e7, e8⟩ := H ρ w b a cs hfr hat hf
  have hfin' : finish P fn.results.toList fr j s2 = .ok x s3 := by rw [finish_fr]; exact hfin
  have hfi : Fine s2 := e2.fine
  have hext : Ext s.nx s2.nx ρ σ := by
    refine ⟨fun k y hk => ?_, fun k hk => ?_⟩
    · by_cases q : s.nx ≤ k ∧ k < top
      · rw [hf k q.1 q.2] at hk; cases hk
      · rw [e0 k (by omega)]; exact hk
    · by_cases q : k < s.nx ∨ top ≤ k
      · exact e0 k q
      · rw [e1 k (by omega) (by omega), hf k (by omega) (by omega)]
  obtain ⟨hj, u2, s4, rs, h7, h9, hx⟩ := finish_inv hfin'
  have fi4 : Fine s4 := (Local.dropDefs _).fine hfi h7
  have e7' : Leaves j fr.todo := e7
  obtain ⟨d1, d2, w2, d3, d4, d5⟩ := dropDefs_sim (P := P) (fr := b) (cs := cs) hfi e2.rel e3 h7
  obtain ⟨f1, f2, us, f3, f4⟩ := resultsOf_sim (P := P) (w := w2) e2.tr fi4 d3 h9
  have fi3 : Fine s3 := (Local.resultsOf P fr.tmps _).fine fi4 h9
  have hout : Steps P (lone (b.atR a' fr.todo) cs w') (lone { b.atR a' fr.todo with mode := .returning } cs w') := by
    rcases hj with rfl | rfl
    · have e : fr.todo = [] := e7'
      rw [e]; exact .one (stepR_end rfl)
    · obtain ⟨k, e⟩ := e7'
      rw [e]; exact .one (stepR_ret rfl)
  have hdrop := d5 { b.atR a' fr.todo with mode := .returning } cs (by simp) rfl
  have hres : (results fn a'.tmps).run P w2 = .ok (oneOrV us) w2 := by
    unfold results
    rw [Array.mapM_eq_mapM_toList]
    simp only [Sem.run_bind, map_eq_pure_bind, Sem.run_pure]
    refine Eq.trans (congrArg (fun r : Result (List Value) => (r.andThen fun a w' => Result.ok a.toArray w').andThen fun a w' => Result.ok (if h : a.size = 1 then a[0] else Value.tuple a) w') f3) ?_
    have : ∀ l : List Value, (Result.ok (if h : l.toArray.size = 1 then l.toArray[0] else Value.tuple l.toArray) w2 : Result Value) = .ok (oneOrV l) w2 := by
      intro l
      match l with
      | [] => rfl
      | [v] => rfl
      | v :: v2 :: l => simp [oneOrV]
    exact this us
  have hn3 : s3.nx = s2.nx := by rw [f2, d1]
  have hle : s.nx ≤ s3.nx := by rw [hn3]; exact en
  refine ⟨.returned (oneOrV us), w2, { b.atR a' fr.todo with mode := .returning, defers := [] }, ⟨_, x, s3, rfl, hR, hle, fi3, ?_⟩, ?_, rfl, ?_⟩
  · exact ⟨σ, by rw [hn3]; exact hext, by rw [hx]; exact oneOr_sim f4, by rw [f1]; exact d3, e4.trans d4⟩
  · rw [hstart]
    exact Steps.trans e8 (Steps.trans hout hdrop)
  · exact ⟨rfl, rfl, rfl, fn, hfn, hres⟩
theorem NoW.nil (ρ : Ren) (b : Nat) : NoW ρ .nil b := by
  intro q o N _ h
  rw [Tr.get_nil] at h; cases h
structure Cn (w : World) (F : Nat → Option (List AV)) (ρ : Ren) (m : Nat) : Prop where
  fz : Fz ⟨fun k => w.heap.size ≤ k, F⟩ ρ .nil w
  g : RenG ρ
  free : ∀ k, globs ≤ k → k < top → ρ k = none
  top : top ≤ m
  bound : ∀ k, m ≤ k → F k = none ∧ ρ k = none
theorem Cn.rel {F : Nat → Option (List AV)} {m : Nat} (c : Cn w F ρ m) : Rel ⟨fun k => w.heap.size ≤ k, F⟩ ρ .nil w :=
  ⟨fun n o _ h => (by rw [Tr.get_nil] at h; cases h), fun n _ o _ _ _ _ _ _ h _ _ _ _ => (by rw [Tr.get_nil] at h; cases h), fun n _ _ _ _ _ _ h => (by rw [Tr.get_nil] at h; cases h), fun _ h => h,
    fun i _ _ _ _ _ _ _ _ _ _ _ _ h _ => (by rw [Tr.get_nil] at h; cases h), c.fz⟩
theorem Cn.start {m : Nat} (hm : Rn.top ≤ m) (hb : ∀ k, m ≤ k → B.F k = none) (r : Rel B ρ s.h w) (hg : RenG ρ) : Cn w B.F (fun k => if k < globs then ρ k else hiF B.F ρ k) m := by
  have hgt : globs ≤ Rn.top := by unfold globs Rn.top; decide
  have hlow : ∀ k, k < Rn.top → B.F k = none := fun k hk => by
    cases e : B.F k with
    | none => rfl
    | some l => have := (r.fz k l e).1; omega
  have hhi : hiF B.F (fun k => if k < globs then ρ k else hiF B.F ρ k) = hiF B.F ρ := by
    funext k
    unfold hiF
    cases e : B.F k with
    | none => rfl
    | some l =>
      have := (r.fz k l e).1
      have q1 : ¬ k < globs := by omega
      simp [q1, e]
  refine ⟨fun n l e => ?_, fun k hk => ?_, fun k h1 h2 => ?_, hm, fun k hk => ⟨hb k hk, ?_⟩⟩
  · obtain ⟨h1, b, sh, c, e', fr, h2, h3, _, h5⟩ := r.fz n l e
    refine ⟨h1, b, sh, c, e', fr, ?_, h3, NoW.nil _ _, ?_⟩
    · show (if n < globs then ρ n else hiF B.F ρ n) = _
      rw [if_neg (by omega)]
      unfold hiF
      rw [e]; exact h2
    · intro i x hx
      obtain ⟨v, a1, a2, a3⟩ := h5 i x hx
      exact ⟨v, a1, by show VR (hiF B.F _) x v; rw [hhi]; exact a2, a3⟩
  · obtain ⟨N, e⟩ := hg k hk
    exact ⟨N, by show (if k < globs then ρ k else _) = _; rw [if_pos hk]; exact e⟩
  · show (if k < globs then ρ k else hiF B.F ρ k) = none
    rw [if_neg (by omega)]
    unfold hiF
    rw [hlow k h2]; rfl
  · show (if k < globs then ρ k else hiF B.F ρ k) = none
    rw [if_neg (by omega)]
    unfold hiF
    rw [hb k hk]; rfl
def updF (F : Nat → Option (List AV)) (n : Nat) (l : List AV) : Nat → Option (List AV) := fun k => if k = n then some l else F k
end
end Go.Rn

namespace Go.Rn
open Go.RowKit
section
variable {P : Program} {s s1 : AS} {call : Caller} {t : Tr AV}
theorem gather_fill {l z : List AV} (hl : l.length ≤ top) : ∀ (k off : Nat), off + k ≤ l.length → gather (Tr.fill l 0 .nil) z k off = some ((l.drop off).take k)
  | 0, off, _ => by simp [gather]
  | k + 1, off, h => by
    have hlt : off < l.length := by omega
    have hc : cellAt (Tr.fill l 0 .nil) z off = some l[off] := by
      unfold cellAt
      rw [Tr.get_fill' _ _ _ _ (by omega), if_pos (by omega), Nat.sub_zero, List.getElem?_eq_getElem hlt]
    simp only [gather, hc, gather_fill hl k (off + 1) (by omega)]
    rw [List.drop_eq_getElem_cons hlt, List.take_succ_cons]
noncomputable def rowT {α : Type} (enc : α → List AV) (l : List α) : AObj := .cells (l.map enc).flatten.length (Tr.fill (l.map enc).flatten 0 .nil) []
theorem rdN_of {n : Nat} {o : AObj} (h1 : n < s.nx) (h2 : s.h.get n = some o) (hm : s.mark = 0) : rdN n s = .ok o s := by
  obtain ⟨hh, nx, mark, rd, wr⟩ := s
  have hm' : mark = 0 := hm
  subst hm'
  have e1 : Nat.blt n nx = true := by rw [blt_eq]; exact h1
  have e2 : hh.get n = some o := h2
  show @Bool.rec (fun _ => R AObj) .bad (@Option.rec AObj (fun _ => R AObj) .bad (fun o => @Bool.rec (fun _ => R AObj) (.ok o ⟨hh, nx, 0, rd, wr⟩) (.ok o ⟨hh, nx, 0, n :: rd, wr⟩) (Nat.blt n 0)) (hh.get n)) (Nat.blt n nx) = _
  rw [e1, e2]
  have : Nat.blt n 0 = false := by
    cases q : Nat.blt n 0 with
    | false => rfl
    | true => rw [blt_eq] at q; omega
  rw [this]
theorem wrN_of {n : Nat} {o : Option AObj} {p : AObj} (h1 : n < s.nx) (h2 : s.h.get n = some p) (h3 : p.isRo = false) (ht : n < top) (hm : s.mark = 0) : wrN n o s = .ok () { s with h := s.h.put n o } := by
  obtain ⟨hh, nx, mark, rd, wr⟩ := s
  have hm' : mark = 0 := hm
  subst hm'
  have e1 : (Nat.blt n nx && Nat.blt n top) = true := and_true.2 ⟨by rw [blt_eq]; exact h1, by rw [blt_eq]; exact ht⟩
  have e2 : hh.get n = some p := h2
  show @Bool.rec (fun _ => R Unit) .bad (@Option.rec AObj (fun _ => R Unit) .bad (fun p => @Bool.rec (fun _ => R Unit) (@Bool.rec (fun _ => R Unit) (.ok () ⟨hh.put n o, nx, 0, rd, wr⟩) (.ok () ⟨hh.put n o, nx, 0, n :: rd, n :: wr⟩) (Nat.blt n 0)) .bad p.isRo) (hh.get n)) (Nat.blt n nx && Nat.blt n top) = _
  rw [e1, e2]
  show @Bool.rec (fun _ => R Unit) (@Bool.rec (fun _ => R Unit) (.ok () ⟨hh.put n o, nx, 0, rd, wr⟩) (.ok () ⟨hh.put n o, nx, 0, n :: rd, n :: wr⟩) (Nat.blt n 0)) .bad p.isRo = _
  rw [h3]
  have : Nat.blt n 0 = false := by
    cases q : Nat.blt n 0 with
    | false => rfl
    | true => rw [blt_eq] at q; omega
  rw [this]
theorem newN_of {o : AObj} (ht : s.nx < top) : newN o s = .ok s.nx { s with h := s.h.put s.nx (some o), nx := s.nx + 1 } := by
  obtain ⟨hh, nx, mark, rd, wr⟩ := s
  have e1 : Nat.blt nx top = true := by rw [blt_eq]; exact ht
  show @Bool.rec (fun _ => R Nat) .bad (forced nx fun m => .ok m ⟨hh.put m (some o), m + 1, mark, rd, wr⟩) (Nat.blt nx top) = _
  rw [e1, forced_eq]
theorem newRow_of {l : List AV} (hl : l.length ≤ top) (h1 : l.all AV.oneCell = true) (ht : s.nx < top) : newRow l s = .ok s.nx { s with h := s.h.put s.nx (some (.cells l.length (Tr.fill l 0 .nil) [])), nx := s.nx + 1 } := by
  unfold newRow
  rw [show (and (Nat.ble l.length top) (l.all AV.oneCell)) = true from and_true.2 ⟨ble_true.2 hl, h1⟩, withB_true]
  exact newN_of ht
theorem readCells_fill {n off k : Nat} {l z : List AV} (h1 : n < s.nx) (h2 : s.h.get n = some (.cells l.length (Tr.fill l 0 .nil) z)) (hm : s.mark = 0) (hl : l.length ≤ top) (hk : off + k ≤ l.length) : readCells n off k s = .ok ((l.drop off).take k) s := by
  cases k with
  | zero => simp [readCells, M.pure]
  | succ k =>
    show ((rdN n).bind fun o => match o with
      | .cells m t z => withB (Nat.ble (off + (k + 1)) m) <| lift (gather t z (k + 1) off)
      | .ro m t => withB (Nat.ble (off + (k + 1)) m) <| lift (gather t [] (k + 1) off)
      | _ => fail) s = _
    rw [M.bind_ok (rdN_of h1 h2 hm)]
    show withB (Nat.ble (off + (k + 1)) l.length) (lift (gather (Tr.fill l 0 .nil) z (k + 1) off)) s = _
    rw [ble_true.2 hk, withB_true, gather_fill hl _ _ hk]
    rfl
end
end Go.Rn
namespace Go.Rn
open Go.RowKit
end Go.Rn

namespace Go.Rn
open Go.RowKit
noncomputable section
end
section
variable {P : Program} {s s1 : AS} {call : Caller} {t : Tr AV}
end
end Go.Rn
