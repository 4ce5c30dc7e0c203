/- Functions that go through maps in a row that is open, and maps.clone: they are what the evaluator says. -/
import Derived.Test.YtcjmdcndalcomaaGreatDoorRnWay1c
namespace Go.Rn
open Go.RowKit

section
variable {P : Program} {B : Nat} {ρ : Ren} {w : World} {s s1 : AS} {call : Caller}

theorem finishAll_mem {rs : List ResultVar} : ∀ {l : List ((AF × Option Code) × AS)} {outs : List (AV × AS)}, finishAll P rs l = some outs → ∀ x ∈ l, ∃ v s1, finish P rs x.1.1 x.1.2 x.2 = .ok v s1 ∧ (v, s1) ∈ outs
  | [], outs, _, x, hx => by cases hx
  | ((fr, j), s) :: l, outs, h, x, hx => by
    simp only [finishAll] at h
    cases e : finish P rs fr j s with
    | bad => rw [e] at h; cases h
    | ok v s1 =>
      rw [e] at h
      cases e2 : finishAll P rs l with
      | none => simp only [e2] at h; cases h
      | some r =>
        simp only [e2] at h; injection h with h; subst h
        rcases List.mem_cons.1 hx with rfl | hx
        · exact ⟨v, s1, e, by simp⟩
        · obtain ⟨v', s', a, b⟩ := finishAll_mem e2 x hx
          exact ⟨v', s', a, List.mem_cons_of_mem _ b⟩

theorem way1_sim (hmix : P.follows .mixedOrders = true) (hc : CallSim P B call) (hl : ∀ t a, Local (call t a)) {f : FuncId} {fn : Func} {body : Code} {args : List AV} {vs : Array Value} {x : AV} (hfn : P.funcs[f]? = some fn) (hbody : fn.body = some body) (hname : (fn.name == "runtime.NumGoroutine") = false) (hok : CodeOk body)
    (fi : Fine s) (r : Rel B ρ s.h w) (hg : RenG ρ) (hf : Free s.nx s1.nx ρ) (h : ajoin P call f fn.ntmps fn.results.toList body args s = .ok x s1) (hv : VRs ρ args vs.toList) : Back P ((callFunc f vs).run P w) (Came B ρ s s1 w x) := by
  have hcall : (callFunc f vs).run P w = .ok (.enter f vs) w := by
    have hprog : (program).run P w = .ok P w := rfl
    have hn : fn.name ≠ "runtime.NumGoroutine" := by simpa using hname
    simp only [callFunc, Sem.run_bind, hprog, Result.andThen_ok, hfn, hname, hbody]
    simp
  rw [hcall]
  intro cs
  unfold ajoin at h
  cases e0 : Nat.ble (max fn.ntmps args.length) top with
  | false => simp only [e0] at h; cases h
  | true =>
    simp only [e0] at h
    have hmax := ble_true.1 e0
    cases e1 : ajoinAll P call f fn.ntmps fn.results.toList body args ⟨s.h, s.nx, s.nx, [], []⟩ with
    | none => simp only [e1] at h; cases h
    | some outs =>
      simp only [e1] at h
      cases e2 : planOf s.nx outs with
      | none => simp only [e2] at h; cases h
      | some p =>
        simp only [e2] at h
        have e1' := e1
        unfold ajoinAll at e1
        cases e3 : nframe P call 100000 ⟨f, fillArgs args, max fn.ntmps args.length, [.code body], [], none⟩ ⟨s.h, s.nx, s.nx, [], []⟩ with
        | none => simp only [e3] at e1; cases e1
        | some l =>
          simp only [e3] at e1
          have fi0 : Fine (⟨s.h, s.nx, s.nx, [], []⟩ : AS) := ⟨Nat.le_refl _, fi.nx⟩
          obtain ⟨_, did, _⟩ := (locL_finishAll P fn.results.toList (locL_nframe P hl _ _)) ⟨s.h, s.nx, s.nx, [], []⟩ outs fi0 e1'
          obtain ⟨_, did1, _⟩ := locL_nframe P hl _ _ ⟨s.h, s.nx, s.nx, [], []⟩ l fi0 e3
          have hnx : ∀ x ∈ outs, x.2.nx ≤ s1.nx := by
            intro y hy
            have q1 := nxOf_le y hy
            obtain ⟨ns, _, _, hskip, _, _⟩ := planOf_inv e2
            obtain ⟨_, n1, d1, d2⟩ := M.bind_inv (show ((noteAll p.note).bind fun _ => (putEs p.es).bind fun _ => (retM p.lo p.ret).bind fun v => (skipN p.skip).bind fun _ => M.pure v) s = .ok x s1 from h)
            obtain ⟨_, n2, d3, d4⟩ := M.bind_inv d2
            obtain ⟨y', n3, d5, d6⟩ := M.bind_inv d4
            obtain ⟨_, n4, d7, d8⟩ := M.bind_inv d6
            obtain ⟨rfl, rfl⟩ := pure_inv d8
            obtain ⟨a1, a2⟩ := noteAll_same d1
            obtain ⟨b1, _⟩ := putEs_same d3
            obtain ⟨c1, _⟩ := skipN_same d7
            rcases retM_same d5 with ⟨rfl, _⟩ | ⟨n, c, len, ee, _, _, g1, _, g2, _⟩
            · omega
            · omega
          have hnl : ∀ y ∈ l, y.2.nx ≤ s1.nx := by
            intro y hy
            obtain ⟨v, s3, q1, q2⟩ := finishAll_mem e1 y hy
            obtain ⟨dr, dw, d⟩ := did1 y hy
            have := (Local.finish P fn.results.toList y.1.1 y.1.2).le (d.fine fi0) q1
            exact Nat.le_trans this (hnx _ q2)
          let b : Frame := { (default : Frame) with fn := f, kind := .normal, roundOf := none }
          let a : Act := { tmps := vs ++ Array.replicate (fn.ntmps - vs.size) undef, defers := [] }
          have hstart : Frame.enter P f vs .normal = b.atR a [.code body] := by simp [Frame.enter, Frame.atR, hfn, hbody, b, a]
          have hfr : Fr ρ ⟨f, fillArgs args, max fn.ntmps args.length, [.code body], [], none⟩ b a := ⟨rfl, rfl, trivial, rfl, .cons hok .nil⟩
          have hat : At B ρ ⟨s.h, s.nx, s.nx, [], []⟩ (max fn.ntmps args.length) (fillArgs args) w a := ⟨fillArgs_sim hv _ hmax, r, hg, hmax, fi0⟩
          obtain ⟨fr, j, s2, hin, σ, a', w', q1, q2, q3, q4, ⟨q5, q5', q5''⟩, q6, q7, q8⟩ := nframe_sim (b := b) (cs := cs) hmix hc hl 100000 hfr hat (fun y hy => hf.sub (Nat.le_refl _) (hnl y hy)) e3
          obtain ⟨v, s3, hfin, hout⟩ := finishAll_mem e1 _ hin
          obtain ⟨dr, dw, hd⟩ := did _ hout
          obtain ⟨dr1, dw1, hd1⟩ := did1 _ hin
          have fi2 : Fine s2 := hd1.fine fi0
          obtain ⟨hj, u2, s4, rs, h7, h9, hx⟩ := finish_inv hfin
          have q7' : Leaves j fr.todo := q7
          obtain ⟨d1, d2, w2, d3, d4, d5⟩ := dropDefs_sim (P := P) (fr := b) (cs := cs) fi2 q2.rel q3 h7
          have fi4 : Fine s4 := (Local.dropDefs _).fine fi2 h7
          obtain ⟨f1, f2, us, f3, f4⟩ := resultsOf_sim (P := P) (w := w2) q2.tr fi4 d3 h9
          have hdone : Steps P (lone (b.atR a' fr.todo) cs w') (lone { b.atR a' fr.todo with mode := .returning } cs w') := by
            rcases hj with rfl | rfl
            · have e : fr.todo = [] := q7'
              rw [e]; exact .one (stepR_end rfl)
            · obtain ⟨k, e⟩ := q7'
              rw [e]; exact .one (stepR_ret rfl)
          have hdrop := d5 { b.atR a' fr.todo with mode := .returning } cs (by simp) rfl
          have hres : (results fn a'.tmps).run P w2 = .ok (oneOrV us) w2 := by
            unfold results
            rw [Array.mapM_eq_mapM_toList]
            simp only [Sem.run_bind, map_eq_pure_bind, Sem.run_pure]
            refine Eq.trans (congrArg (fun r : Result (List Value) => (r.andThen fun a w' => Result.ok a.toArray w').andThen fun a w' => Result.ok (if h : a.size = 1 then a[0] else Value.tuple a) w') f3) ?_
            have : ∀ l : List Value, (Result.ok (if h : l.toArray.size = 1 then l.toArray[0] else Value.tuple l.toArray) w2 : Result Value) = .ok (oneOrV l) w2 := by
              intro l
              match l with
              | [] => rfl
              | [v] => rfl
              | v :: v2 :: l => simp [oneOrV]
            exact this us
          have came : Came B ρ s s1 w x (oneOrV us) w2 := by
            refine join_sim (σ := σ) r hf e2 hout hd h ?_ ?_ ?_ (q4.trans d4)
            · rw [show s3.nx = s2.nx by rw [f2, d1]]; exact q1
            · rw [hx]; exact oneOr_sim f4
            · rw [f1]; exact d3
          refine ⟨.returned (oneOrV us), w2, { b.atR a' fr.todo with mode := .returning, defers := [] }, ⟨_, rfl, came⟩, ?_, rfl, ?_⟩
          · rw [hstart]
            exact Steps.trans q8 (Steps.trans hdone hdrop)
          · exact ⟨rfl, rfl, rfl, fn, hfn, hres⟩

/-- maps.clone is this one. -/
structure IsClone (P : Program) (f : FuncId) : Prop where
  is : ∃ fn, P.funcs[f]? = some fn ∧ fn.body = none ∧ (fn.name == "runtime.NumGoroutine") = false ∧ (Extern.findNext fn).isNone = true ∧ Extern.find fn = some Extern.MapsClone.clone

theorem clone_back {f : FuncId} (hf : IsClone P f) {vs : Array Value} {R : Value → World → Prop} {v : Value} {w' : World} (h : (Extern.MapsClone.clone vs).run P w = .ok v w') (hR : R v w') : Back P ((callFunc f vs).run P w) R := by
  obtain ⟨fn, h1, h2, h3, h4, h5⟩ := hf.is
  have hprog : (program).run P w = .ok P w := rfl
  have hmark : (mark (.extern f)).run P w = .ok () w := rfl
  have h4' : Extern.findNext fn = none := by simpa using h4
  have : (callFunc f vs).run P w = .ok (.value v) w' := by
    simp only [callFunc, Sem.run_bind, hprog, Result.andThen_ok, h1, h2, h3, h4', h5]
    simp [h, hmark]
  rw [this]
  exact hR

theorem waysOk {way : FuncId → Nat} (hP : ProgOk P) (h3 : ∀ f, way f ≠ 3) (h2 : ∀ f, way f = 2 → IsClone P f) : WaysOk P B way := by
  intro n f hw ih args x s s1 ρ w vs fi r hg hf h hv
  rcases hw with e | e | e
  · unfold fnB at h
    rw [e] at h
    simp only at h
    cases e1 : P.funcs[f]? with
    | none => rw [e1] at h; cases h
    | some fn =>
      rw [e1] at h
      cases e2 : fn.body with
      | none => simp only [e2] at h; cases h
      | some body =>
        simp only [e2] at h
        cases e3 : (fn.name == "runtime.NumGoroutine") with
        | true => simp only [e3] at h; cases h
        | false =>
          simp only [e3] at h
          exact way1_sim hP.mixed ih (local_arun P way n) e1 e2 e3 (hP.code f fn body e1 e2) fi r hg hf h hv
  · unfold fnB at h
    rw [e] at h
    have h' : cloneMap args s = .ok x s1 := h
    obtain ⟨σ, w', v, a1, a2, a3, a4, a5⟩ := clone_sim (P := P) fi r hf hv h'
    exact clone_back (h2 f e) a2 ⟨σ, a1, a3, a4, a5⟩
  · exact absurd e (h3 f)
end
end Go.Rn
