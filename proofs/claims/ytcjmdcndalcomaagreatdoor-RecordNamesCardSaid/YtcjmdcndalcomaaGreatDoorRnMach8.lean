/- Functions by their text; all calls. -/
import Derived.Test.YtcjmdcndalcomaaGreatDoorRnMach7
namespace Go.Rn
open Go.RowKit

section
variable {P : Program} {B : Nat} {ρ : Ren} {w : World} {s s1 : AS} {call : Caller}

theorem fillArgs_sim {args : List AV} {vs : Array Value} (hv : VRs ρ args vs.toList) (n : Nat) (hn : max n args.length ≤ top) : TR ρ (max n args.length) (fillArgs args) (vs ++ Array.replicate (n - vs.size) undef) := by
  have hlen := hv.length
  simp only [Array.length_toList] at hlen
  refine ⟨by simp; omega, fun i => ?_⟩
  unfold fillArgs
  rw [Tr.get_fill' _ _ _ _ (by omega)]
  by_cases h : i < args.length
  · rw [if_pos (by omega), Nat.sub_zero]
    obtain ⟨x, hx⟩ : ∃ x, args[i]? = some x := ⟨args[i], List.getElem?_eq_getElem h⟩
    obtain ⟨v, h1, h2⟩ := hv.get i x hx
    rw [hx, Array.getD_eq_getD_getElem?, Array.getElem?_append_left (by omega)]
    rw [Array.getElem?_toList] at h1
    rw [h1]; exact h2
  · rw [if_neg (by omega), Tr.get_nil]
    have : (vs ++ Array.replicate (n - vs.size) undef).getD i undef = undef := by
      rw [Array.getD_eq_getD_getElem?, Array.getElem?_append_right (by omega)]
      by_cases q : i - vs.size < n - vs.size
      · simp [q]
      · simp [q]
    rw [this]; exact VR.undef ρ

def oneOrA : List AV → AV
  | [v] => v
  | l => .tuple l
def oneOrV : List Value → Value
  | [v] => v
  | l => .tuple l.toArray
theorem oneOr_sim : ∀ {rs : List AV} {us : List Value}, VRs ρ rs us → VR ρ (oneOrA rs) (oneOrV us)
  | [], us, h => by simp only [VRs] at h; subst h; simp only [oneOrA, oneOrV, VR, VRs]; exact ⟨_, rfl, rfl⟩
  | [v], us, h => by simp only [VRs] at h; obtain ⟨u, us', rfl, g1, rfl⟩ := h; exact g1
  | v :: v2 :: rs, us, h => by
    simp only [VRs] at h
    obtain ⟨u, us', rfl, g1, u2, us2, rfl, g3, g4⟩ := h
    simp only [oneOrA, oneOrV, VR, VRs]; exact ⟨_, rfl, u, _, rfl, g1, u2, us2, rfl, g3, g4⟩
theorem finish_inv {rs : List ResultVar} {fr : AF} {j : Option Code} {x : AV} (h : finish P rs fr j s = .ok x s1) :
    (j = none ∨ j = some .ret) ∧ ∃ u s4 vs, dropDefs fr.defers s = .ok u s4 ∧ resultsOf P fr.tmps rs s4 = .ok vs s1 ∧ x = oneOrA vs := by
  unfold finish at h
  obtain ⟨u, s3, h5, h6⟩ := M.bind_inv h
  have hs3 : s3 = s ∧ (j = none ∨ j = some .ret) := by
    cases j with
    | none => exact ⟨(pure_inv (show M.pure () s = .ok u s3 from h5)).2, .inl rfl⟩
    | some c => cases c <;> first | exact ⟨(pure_inv (show M.pure () s = .ok u s3 from h5)).2, .inr rfl⟩ | cases h5
  obtain ⟨hs, hj⟩ := hs3
  clear h5 h
  subst hs
  obtain ⟨u2, s4, h7, h8⟩ := M.bind_inv h6
  obtain ⟨vs, s5, h9, h10⟩ := M.bind_inv h8
  refine ⟨hj, u2, s4, vs, h7, ?_⟩
  cases vs with
  | nil => obtain ⟨rfl, rfl⟩ := pure_inv (show M.pure (.tuple []) s5 = .ok x s1 from h10); exact ⟨h9, rfl⟩
  | cons v rs =>
    cases rs with
    | nil => obtain ⟨rfl, rfl⟩ := pure_inv (show M.pure v s5 = .ok x s1 from h10); exact ⟨h9, rfl⟩
    | cons v2 rs => obtain ⟨rfl, rfl⟩ := pure_inv (show M.pure (.tuple (v :: v2 :: rs)) s5 = .ok x s1 from h10); exact ⟨h9, rfl⟩

theorem body_sim (hmix : P.follows .mixedOrders = true) (hc : CallSim P B call) (hl : ∀ t a, Local (call t a)) {f : FuncId} {fn : Func} {body : Code} {args : List AV} {vs : Array Value} {x : AV} (hfn : P.funcs[f]? = some fn) (hbody : fn.body = some body) (hname : (fn.name == "runtime.NumGoroutine") = false) (hok : CodeOk body)
    (fi : Fine s) (r : Rel B ρ s.h w) (hg : RenG ρ) (hf : Free s.nx s1.nx ρ) (h : kBody P f fn.ntmps fn.results.toList body call args s = .ok x s1) (hv : VRs ρ args vs.toList) : Back P ((callFunc f vs).run P w) (Came B ρ s s1 w x) := by
  have hcall : (callFunc f vs).run P w = .ok (.enter f vs) w := by
    have hprog : (program).run P w = .ok P w := rfl
    have hn : fn.name ≠ "runtime.NumGoroutine" := by simpa using hname
    simp only [callFunc, Sem.run_bind, hprog, Result.andThen_ok, hfn, hname, hbody]
    simp
  rw [hcall]
  intro cs
  unfold kBody at h
  obtain ⟨h1, h2⟩ := withB_inv h
  have hmax := ble_true.1 h1
  obtain ⟨y, s2, h3, h4⟩ := M.bind_inv h2
  cases y with
  | go fr => cases h4
  | leave fr j =>
    have h4' : finish P fn.results.toList fr j s2 = .ok x s1 := h4
    let b : Frame := { (default : Frame) with fn := f, kind := .normal, roundOf := none }
    let a : Act := { tmps := vs ++ Array.replicate (fn.ntmps - vs.size) undef, defers := [] }
    have hstart : Frame.enter P f vs .normal = b.atR a [.code body] := by simp [Frame.enter, Frame.atR, hfn, hbody, b, a]
    have hfr : Fr ρ ⟨f, fillArgs args, max fn.ntmps args.length, [.code body], [], none⟩ b a := ⟨rfl, rfl, trivial, rfl, .cons hok .nil⟩
    have hat : At B ρ s (max fn.ntmps args.length) (fillArgs args) w a := ⟨fillArgs_sim hv _ hmax, r, hg, hmax, fi⟩
    have le1 := (Local.agrow P hl depth 2 ⟨f, fillArgs args, max fn.ntmps args.length, [.code body], [], none⟩).le fi h3
    have fi2 := (Local.agrow P hl depth 2 ⟨f, fillArgs args, max fn.ntmps args.length, [.code body], [], none⟩).fine fi h3
    -- the end
    obtain ⟨hj, u2, s4, rs, h7, h9, hx⟩ := finish_inv h4'
    have hnxD : ∀ {l : List Nat} {s s1 : AS} {u : Unit}, dropDefs l s = .ok u s1 → s1.nx = s.nx := by
      intro l
      induction l with
      | nil => intro s s1 u h; exact congrArg AS.nx (pure_inv (show M.pure () s = .ok u s1 from h)).2
      | cons d l ih =>
        intro s s1 u h
        obtain ⟨o, s2, q1, q2⟩ := M.bind_inv (show ((rdN d).bind fun o => match o with | .defs => (wrN d none).bind fun _ => dropDefs l | _ => fail) s = .ok u s1 from h)
        cases o with
        | defs =>
          obtain ⟨u2, s3, q3, q4⟩ := M.bind_inv q2
          rw [ih q4, (wrN_same q3).2.2.2.2, (rdN_same q1).2.2.2]
        | _ => cases q2
    have hnxR : ∀ {l : List ResultVar} {t : Tr AV} {vs : List AV} {s s1 : AS}, Fine s → resultsOf P t l s = .ok vs s1 → s.nx ≤ s1.nx := by
      intro l t vs s s1 fi h
      exact (Local.resultsOf P t l).le fi h
    have n4 := hnxD h7
    have fi4 : Fine s4 := (Local.dropDefs _).fine fi2 h7
    have n5 := hnxR fi4 h9
    obtain ⟨σ, a', w', e1, e2, e3, e4, ⟨e5, e5', e5''⟩, e6, e7, e8⟩ := agrow_sim (b := b) (cs := cs) hmix hc hl depth 2 hfr hat (hf.sub (Nat.le_refl _) (by omega)) h3
    have e7' : Leaves j fr.todo := e7
    obtain ⟨d1, d2, w2, d3, d4, d5⟩ := dropDefs_sim (P := P) (fr := b) (cs := cs) fi2 e2.rel e3 h7
    obtain ⟨f1, f2, us, f3, f4⟩ := resultsOf_sim (P := P) (w := w2) e2.tr fi4 d3 h9
    have hout : Steps P (lone (b.atR a' fr.todo) cs w') (lone { b.atR a' fr.todo with mode := .returning } cs w') := by
      rcases hj with rfl | rfl
      · have e : fr.todo = [] := e7'
        rw [e]; exact .one (stepR_end rfl)
      · obtain ⟨k, e⟩ := e7'
        rw [e]; exact .one (stepR_ret rfl)
    have hdrop := d5 { b.atR a' fr.todo with mode := .returning } cs (by simp) rfl
    have hres : (results fn a'.tmps).run P w2 = .ok (oneOrV us) w2 := by
      unfold results
      rw [Array.mapM_eq_mapM_toList]
      simp only [Sem.run_bind, map_eq_pure_bind, Sem.run_pure]
      refine Eq.trans (congrArg (fun r : Result (List Value) => (r.andThen fun a w' => Result.ok a.toArray w').andThen fun a w' => Result.ok (if h : a.size = 1 then a[0] else Value.tuple a) w') f3) ?_
      have : ∀ l : List Value, (Result.ok (if h : l.toArray.size = 1 then l.toArray[0] else Value.tuple l.toArray) w2 : Result Value) = .ok (oneOrV l) w2 := by
        intro l
        match l with
        | [] => rfl
        | [v] => rfl
        | v :: v2 :: l => simp [oneOrV]
      exact this us
    refine ⟨.returned (oneOrV us), w2, { b.atR a' fr.todo with mode := .returning, defers := [] }, ⟨_, rfl, ?_⟩, ?_, rfl, ?_⟩
    · exact ⟨σ, by rw [show s1.nx = s2.nx by rw [f2, d1]]; exact e1, by rw [hx]; exact oneOr_sim f4, by rw [f1]; exact d3, e4.trans d4⟩
    · rw [hstart]
      exact Steps.trans e8 (Steps.trans hout hdrop)
    · exact ⟨rfl, rfl, rfl, fn, hfn, hres⟩

/-- What is asked of a program. -/
structure ProgOk (P : Program) : Prop where
  mixed : P.follows .mixedOrders = true
  code : ∀ (f : FuncId) (fn : Func) (body : Code), P.funcs[f]? = some fn → fn.body = some body → CodeOk body

/-- What a function does by another way than its text. -/
def WaysOk (P : Program) (B : Nat) (way : FuncId → Nat) : Prop :=
  ∀ (n : Nat) (f : FuncId), (way f = 1 ∨ way f = 2 ∨ way f = 3) → CallSim P B (arun P way n) → ∀ (args : List AV) (x : AV) (s s1 : AS) (ρ : Ren) (w : World) (vs : Array Value), Fine s → Rel B ρ s.h w → RenG ρ → Free s.nx s1.nx ρ →
    (fnB P way f).val (arun P way n) args s = .ok x s1 → VRs ρ args vs.toList → Back P ((callFunc f vs).run P w) (Came B ρ s s1 w x)

theorem arun_sim (hP : ProgOk P) {way : FuncId → Nat} (hw : WaysOk P B way) : ∀ (n : Nat), CallSim P B (arun P way n)
  | 0 => ⟨(fun f args x s s1 ρ w vs _ _ _ _ h _ => by cases h), (fun l b N args x s s1 ρ w vs _ _ _ _ h _ _ => by cases h)⟩
  | n + 1 => by
    have ih := arun_sim hP hw n
    refine ⟨fun f args x s s1 ρ w vs fi r hg hf h hv => ?_, fun l b N args x s s1 ρ w vs fi r hg hf h hv hl => round_sim hP.mixed ih (local_arun P way n) fi r hg hf h hv hl⟩
    have h' : (fnB P way f).val (arun P way n) args s = .ok x s1 := h
    by_cases q : way f = 1 ∨ way f = 2 ∨ way f = 3
    · exact hw n f q ih args x s s1 ρ w vs fi r hg hf h' hv
    · unfold fnB at h'
      split at h'
      · rename_i e; exact absurd (.inr (.inl e)) q
      · rename_i e; exact absurd (.inr (.inr e)) q
      · cases e1 : P.funcs[f]? with
        | none => rw [e1] at h'; cases h'
        | some fn =>
          rw [e1] at h'
          cases e2 : fn.body with
          | none => simp only [e2] at h'; cases h'
          | some body =>
            simp only [e2] at h'
            cases e3 : (fn.name == "runtime.NumGoroutine") with
            | true => simp only [e3] at h'; cases h'
            | false =>
              simp only [e3] at h'
              cases e4 : Nat.beq (way f) 1 with
              | true => exact absurd (.inl (beqN_true.1 e4)) q
              | false =>
                simp only [e4] at h'
                exact body_sim hP.mixed ih (local_arun P way n) e1 e2 e3 (hP.code f fn body e1 e2) fi r hg hf h' hv
end
end Go.Rn
